/- A part of the proof over this seat (own work; the framework that reads a Go function as a pure one, or a use of it). No condition of its own. -/
import Derived.Test.YtlkohcnigichaaaGreatLPlays4
import Derived.Test.YtlkohcnigichaaaGreatProg
import Derived.KernelRfl
set_option linter.unusedVariables false
set_option linter.unusedSimpArgs false
set_option linter.unusedSectionVars false
noncomputable section
set_option maxRecDepth 100000
namespace Go.PG
open Go.Proofs
abbrev zd6:=(R:Type)→Tq40→Int→(Int→Tq40→Int→Option R)→Option R
def en263 (F:zd6):Ent:=eV 263 [Kq40,(.int .i64)] [(.int .u64),Kq40,(.int .i64)] F
abbrev zty (Z:Type):=Int→Int→Int→Tq40→Tq43→Z
abbrev E263_7 (R:Type):=(Int→Tq40→Tq43→Option R)→Option R
abbrev Mz:=(R:Type)→zty (E263_7 R)
def zaz (L:Mz):LEnt:=lM 7 [.val 4 (.int .u64),.fix 5 (.ptr 1 [] Kq40),.fix 7 (.ptr 2 [] Kq43),.val 31 (.int .i64),.val 32 (.int .i64),.var 1 Kq40 false,.var 2 Kq43 false] 3 [(.exit 1,[.val 4 (.int .u64),.fix 5 (.ptr 1 [] Kq40),.fix 7 (.ptr 2 [] Kq43),.var 1 Kq40 false,.var 2 Kq43 false])] L
def e263 (F266:N9) (F277:zd0) (F278:zjm) (L7:Mz):=sE 0 45 [] [ziz F266,en277 F277,en278 F278] [zaz L7]
def zk2 (F278:zjm) (R:Type):zty (zty (Option R)→E263_7 R):=fun x1 x2 x3 x4 x5 kc k0=>
let v6:=decide (x3<x2);(match v6 with
|true=>let v7:=ishl .u64 x1 (1:Int);F278 R x5 fun y8 p9=>
let v10:=ior .u64 v7 y8;let v11:=IntKind.i64.wrap (x3+1);kc v10 x2 v11 x4 p9
|false=>k0 x1 x4 x5)
theorem q263_7 (F266:N9) (F277:zd0) (F278:zjm) (L7:Mz):LEQ (zaz L7) (e263 F266 F277 F278 L7) Tryz.f263 (zk2 F278):=fun _ _ _ _=>by kernel_rfl
def Oo:Nat→Mz
 | 0=>fun _ _ _ _ _ _ _=>none
 | n+1=>fun R x1 x2 x3 x4 x5 k0=>zk2 F278 R x1 x2 x3 x4 x5 (fun x1 x2 x3 x4 x5=>Oo n R x1 x2 x3 x4 x5 k0) k0
def p263 (F266:N9) (F277:zd0) (L7:Mz):zd6:=fun R a0 a1 k=>
F266 R a0 fun y1=>
(match (!y1) with
|true=>k (0:Int) a0 (1:Int)
|false=>let v2:=decide (a1<0);(match v2 with
|true=>k (0:Int) a0 (1:Int)
|false=>let v3:=decide (a1>64);(match v3 with
|true=>k (0:Int) a0 (1:Int)
|false=>let v4:=IntKind.u64.wrap a1;F277 R a0 fun y5=>
let v6:=decide (v4>y5);(match v6 with
|true=>k (0:Int) a0 (8:Int)
|false=>L7 R (0:Int) a1 (0:Int) ((0:Int),([]:LI),(0:Int),(List.replicate 32 (0:Int)),(0:Int),(0:Int),()) (a0,(List.replicate 32 (0:Int)),(0:Int),false,()) (fun x7 x8 x9=>
k x7 x9.1 (0:Int))))))
theorem q263 (F266:N9) (F277:zd0) (F278:zjm) (L7:Mz):EQ (en263 (p263 F266 F277 L7)) (e263 F266 F277 F278 L7) Tryz.f263 [(.tmp 4,28,false),(.cell 5 132,132,false),(.tmp 6,35,false)]:=fun _ _ _=>by kernel_rfl
def F263:zd6:=p263 F266 F277 (Oo FUEL)
theorem zw2:LKP (zaz (Oo FUEL)) 0 45 7 Tryz.f263:=ST.lok (q263_7 F266 F277 F278 (Oo FUEL)) (Aa zmc (Aa ok277 (Aa ok278 Ab))) [] trivial
theorem ok263:OKP (en263 F263):=ST.ok1 (q263 F266 F277 F278 (Oo FUEL)) (Aa zmc (Aa ok277 (Aa ok278 Ab))) Tryz.func263 [7] ⟨⟨_,rfl,zw2⟩,trivial⟩
abbrev zeg:=(R:Type)→Tq40→Int→Int→(Int→Tq40→Int→Option R)→Option R
def zzj (F:zeg):Ent:=eV 235 [Kq40,(.int .u64),(.int .i64)] [(.int .u64),Kq40,(.int .i64)] F
abbrev zt8 (Z:Type):=Int→Int→Int→Tq40→Tq40→Z
abbrev E235_4 (R:Type):=(Int→Int→Tq40→Option R)→(Tq40→Tq40→Option R)→Option R
abbrev M7:=(R:Type)→zt8 (E235_4 R)
def za9 (L:M7):LEnt:=lM 4 [.val 1 (.int .u64),.fix 3 (.ptr 0 [] Kq40),.fix 7 (.ptr 1 [] Kq40),.val 18 (.int .i64),.val 19 (.int .i64),.var 0 Kq40 false,.var 1 Kq40 false] 2 [(.ret,[.val 6 (.int .u64),.fix 7 (.ptr 1 [] Kq40),.val 8 (.int .i64),.var 1 Kq40 false]),(.exit 0,[.fix 3 (.ptr 0 [] Kq40),.fix 7 (.ptr 1 [] Kq40),.var 0 Kq40 false,.var 1 Kq40 false])] L
def e235 (F262:zd7) (F263:zd6) (F264:zd5) (L4:M7):=sE 0 43 [] [en262 F262,en263 F263,en264 F264] [za9 L4]
def zla (F263:zd6) (F264:zd5) (R:Type):zt8 (zt8 (Option R)→E235_4 R):=fun x1 x2 x3 x4 x5 kc k0 k1=>
let v6:=decide (x3<x2);(match v6 with
|true=>F264 R x1 fun y7=>
F263 R x4 y7 fun y8 y9 y10=>
let v11:=y10 !=0;(match v11 with
|true=>k0 (0:Int) y10 x4
|false=>let v12:=decide (y8<x1);(match v12 with
|true=>k0 y8 (0:Int) y9
|false=>let v13:=IntKind.i64.wrap (x3+1);kc x1 x2 v13 y9 x5))
|false=>k1 x4 x5)
theorem q235_4 (F262:zd7) (F263:zd6) (F264:zd5) (L4:M7):LEQ (za9 L4) (e235 F262 F263 F264 L4) Tryz.f235 (zla F263 F264):=fun _ _ _ _=>by kernel_rfl
def Rb:Nat→M7
 | 0=>fun _ _ _ _ _ _ _ _=>none
 | n+1=>fun R x1 x2 x3 x4 x5 k0 k1=>zla F263 F264 R x1 x2 x3 x4 x5 (fun x1 x2 x3 x4 x5=>Rb n R x1 x2 x3 x4 x5 k0 k1) k0 k1
def p235 (F262:zd7) (L4:M7):zeg:=fun R a0 a1 a2 k=>
F262 R a0 a1 a2 fun y1=>
(match (!y1) with
|true=>k (0:Int) a0 (1:Int)
|false=>L4 R a1 a2 (0:Int) a0 ((0:Int),([]:LI),(0:Int),(List.replicate 32 (0:Int)),(0:Int),(0:Int),()) (fun x2 x3 x4=>
k x2 x4 x3) (fun x5 x6=>
k (0:Int) x5 (9:Int)))
theorem q235 (F262:zd7) (F263:zd6) (F264:zd5) (L4:M7):EQ (zzj (p235 F262 L4)) (e235 F262 F263 F264 L4) Tryz.f235 [(.tmp 6,28,false),(.cell 7 132,132,false),(.tmp 8,35,false)]:=fun _ _ _=>by kernel_rfl
def F235:zeg:=p235 F262 (Rb FUEL)
theorem zxc:LKP (za9 (Rb FUEL)) 0 43 4 Tryz.f235:=ST.lok (q235_4 F262 F263 F264 (Rb FUEL)) (Aa ok262 (Aa ok263 (Aa ok264 Ab))) [] trivial
theorem ok235:OKP (zzj F235):=ST.ok1 (q235 F262 F263 F264 (Rb FUEL)) (Aa ok262 (Aa ok263 (Aa ok264 Ab))) Tryz.func235 [4] ⟨⟨_,rfl,zxc⟩,trivial⟩
abbrev zqx:=(R:Type)→(LI×Unit)→Int→(Int→Int→Option R)→Option R
def en257 (F:zqx):Ent:=eV 257 [(.pair (.sl (.int .u64)) .unit),(.int .u64)] [(.int .i64),(.int .i64)] F
abbrev zt0 (Z:Type):=Int→Int→Int→(LI×Unit)→Z
abbrev E257_4 (R:Type):=(Int→Int→Int→(LI×Unit)→Option R)→Option R
abbrev J4:=(R:Type)→zt0 (E257_4 R)
def za1 (L:J4):LEnt:=lM 4 [.val 1 (.int .u64),.fix 2 (.ptr 0 [] (.pair (.sl (.int .u64)) .unit)),.val 6 (.int .i64),.val 7 (.int .i64),.var 0 (.pair (.sl (.int .u64)) .unit) false] 1 [(.exit 0,[.val 1 (.int .u64),.fix 2 (.ptr 0 [] (.pair (.sl (.int .u64)) .unit)),.val 6 (.int .i64),.val 7 (.int .i64),.var 0 (.pair (.sl (.int .u64)) .unit) false])] L
abbrev ztz (Z:Type):=Int→Int→Int→(LI×Unit)→Z
abbrev E257_6 (R:Type):=(Int→Option R)→Option R
abbrev J3:=(R:Type)→ztz (E257_6 R)
def za0 (L:J3):LEnt:=lM 6 [.val 1 (.int .u64),.fix 2 (.ptr 0 [] (.pair (.sl (.int .u64)) .unit)),.val 6 (.int .i64),.val 7 (.int .i64),.var 0 (.pair (.sl (.int .u64)) .unit) false] 1 [(.exit 2,[.val 6 (.int .i64)])] L
def e257 (F256:Lm) (F275:N8) (L4:J4) (L6:J3):=sE 0 51 [] [zn9 F256,zn8 F275] [za1 L4,za0 L6]
def zk3 (F275:N8) (R:Type):zt0 (zt0 (Option R)→E257_4 R):=fun x1 x2 x3 x4 kc k0=>
let v5:=ishl .i64 x3 (1:Int);F275 R x4 fun y6=>
let v7:=decide (v5≤y6);(match v7 with
|true=>let v8:=ishl .i64 x3 (1:Int);kc x1 x2 v8 x4
|false=>k0 x1 x2 x3 x4)
theorem q257_4 (F256:Lm) (F275:N8) (L4:J4) (L6:J3):LEQ (za1 L4) (e257 F256 F275 L4 L6) Tryz.f257 (zk3 F275):=fun _ _ _ _=>by kernel_rfl
def Oq:Nat→J4
 | 0=>fun _ _ _ _ _ _=>none
 | n+1=>fun R x1 x2 x3 x4 k0=>zk3 F275 R x1 x2 x3 x4 (fun x1 x2 x3 x4=>Oq n R x1 x2 x3 x4 k0) k0
def zgf (F275:N8) (R:Type):ztz (ztz (Option R)→E257_6 R):=fun x1 x2 x3 x4 kc k0=>
let v5:=decide (x3>0);(match v5 with
|true=>let v6:=IntKind.i64.wrap (x2+x3);F275 R x4 fun y7=>
let v8:=decide (v6≤y7);(match v8 with
|true=>let v9:=IntKind.i64.wrap (v6 - 1);(match bnd v9 x4.1.length with
|true=>let v10:=x4.1.getD v9.toNat 0;let v11:=decide (v10≤x1);(match v11 with
|true=>let v12:=IntKind.i64.wrap (v6 - 1);(match bnd v12 x4.1.length with
|true=>let v13:=x4.1.getD v12.toNat 0;let v14:=IntKind.u64.wrap (x1 - v13);let v15:=ishr .i64 x3 (1:Int);kc v14 v6 v15 x4
|false=>none)
|false=>let v16:=ishr .i64 x3 (1:Int);kc x1 x2 v16 x4)
|false=>none)
|false=>let v17:=ishr .i64 x3 (1:Int);kc x1 x2 v17 x4)
|false=>k0 x2)
theorem q257_6 (F256:Lm) (F275:N8) (L4:J4) (L6:J3):LEQ (za0 L6) (e257 F256 F275 L4 L6) Tryz.f257 (zgf F275):=fun _ _ _ _=>by kernel_rfl
def Ir:Nat→J3
 | 0=>fun _ _ _ _ _ _=>none
 | n+1=>fun R x1 x2 x3 x4 k0=>zgf F275 R x1 x2 x3 x4 (fun x1 x2 x3 x4=>Ir n R x1 x2 x3 x4 k0) k0
def p257 (F256:Lm) (L4:J4) (L6:J3):zqx:=fun R a0 a1 k=>
F256 R a0 fun y1=>
let v2:=decide (a1≥y1);(match v2 with
|true=>k (0:Int) (3:Int)
|false=>L4 R a1 (0:Int) (1:Int) a0 (fun x3 x4 x5 x6=>
L6 R x3 x4 x5 x6 (fun x7=>
k x7 (0:Int))))
theorem q257 (F256:Lm) (F275:N8) (L4:J4) (L6:J3):EQ (en257 (p257 F256 L4 L6)) (e257 F256 F275 L4 L6) Tryz.f257 [(.tmp 4,3,false),(.tmp 5,35,false)]:=fun _ _ _=>by kernel_rfl
def F257:zqx:=p257 F256 (Oq FUEL) (Ir FUEL)
theorem zw4:LKP (za1 (Oq FUEL)) 0 51 4 Tryz.f257:=ST.lok (q257_4 F256 F275 (Oq FUEL) (Ir FUEL)) (Aa zie (Aa zmb Ab)) [] trivial
theorem zw3:LKP (za0 (Ir FUEL)) 0 51 6 Tryz.f257:=ST.lok (q257_6 F256 F275 (Oq FUEL) (Ir FUEL)) (Aa zie (Aa zmb Ab)) [] trivial
theorem ok257:OKP (en257 F257):=ST.ok1 (q257 F256 F275 (Oq FUEL) (Ir FUEL)) (Aa zie (Aa zmb Ab)) Tryz.func257 [4,6] ⟨⟨_,rfl,zw4⟩,⟨⟨_,rfl,zw3⟩,trivial⟩⟩
abbrev Vv:=(R:Type)→(LI×Unit)→Tq40→Int→(Int→Tq40→Int→Option R)→Option R
def zzk (F:Vv):Ent:=eV 230 [(.pair (.sl (.int .u64)) .unit),Kq40,(.int .i64)] [(.int .i64),Kq40,(.int .i64)] F
def p230 (F235:zeg) (F256:Lm) (F257:zqx):Vv:=fun R a0 a1 a2 k=>
F256 R a0 fun y1=>
let v2:=y1==0;(match v2 with
|true=>k (0:Int) a1 (10:Int)
|false=>F235 R a1 y1 a2 fun y3 y4 y5=>
let v6:=y5 !=0;(match v6 with
|true=>k (0:Int) y4 y5
|false=>F257 R a0 y3 fun y7 y8=>
k y7 y4 y8))
theorem q230 (F235:zeg) (F256:Lm) (F257:zqx):EQ (zzk (p230 F235 F256 F257)) (sE 0 40 [] [zzj F235,zn9 F256,en257 F257] []) Tryz.f230 [(.tmp 6,3,false),(.cell 7 132,132,false),(.tmp 8,35,false)]:=fun _ _ _=>by kernel_rfl
def F230:Vv:=p230 F235 F256 F257
theorem ok230:OKP (zzk F230):=ST.ok0 (q230 F235 F256 F257) (Aa ok235 (Aa zie (Aa ok257 Ab))) Tryz.func230
abbrev zel:=(R:Type)→Tq10→(LI×Unit)→Int→(Int→Int→Option R)→Option R
def en193 (F:zel):Ent:=eV 193 [Kq10,(.pair (.sl (.int .u64)) .unit),(.int .i64)] [(.int .i64),(.int .i64)] F
def p193 (F161:Vz) (F230:Vv):zel:=fun R a0 a1 a2 k=>
F161 R a0 (1:Int) a2 fun y1=>
F230 R a1 y1 a0.2.1 fun y2 y3 y4=>
k y2 y4
theorem q193 (F161:Vz) (F230:Vv):EQ (en193 (p193 F161 F230)) (sE 0 24 [] [zog F161,zzk F230] []) Tryz.f193 [(.tmp 6,3,false),(.tmp 7,35,false)]:=fun _ _ _=>by kernel_rfl
def F193:zel:=p193 F161 F230
theorem ok193:OKP (en193 F193):=ST.ok0 (q193 F161 F230) (Aa ok161 (Aa ok230 Ab)) Tryz.func193
abbrev zru:=(R:Type)→LI→Int→Int→LI→(LI→Int→Option R)→Option R
def en156 (F:zru):Ent:=eV 156 [(.arr 32 (.int .u8)),(.int .i64),(.int .i64),(.sl (.int .u64))] [(.sl (.int .i64)),(.int .i64)] F
abbrev zus (Z:Type):=Int→Int→Tq10→(LI×Unit)→LI→Z
abbrev E156_9 (R:Type):=(LI→Option R)→Option R
abbrev Nl:=(R:Type)→zus (E156_9 R)
def zbt (L:Nl):LEnt:=lM 9 [.fix 10 (.ptr 1 [] Kq10),.fix 11 (.ptr 2 [] (.pair (.sl (.int .u64)) .unit)),.fix 13 (.own 3 0),.val 38 (.int .i64),.val 39 (.int .i64),.var 1 Kq10 false,.var 2 (.pair (.sl (.int .u64)) .unit) false,.row 3 (.int .i64) false] 4 [(.exit 0,[.fix 13 (.own 3 0),.row 3 (.int .i64) false])] L
def e156 (F159:R6) (F192:Vw) (F193:zel) (L9:Nl):=sE 0 59 [] [zoh F159,zzp F192,en193 F193] [zbt L9]
def zlp (F193:zel) (R:Type):zus (zus (Option R)→E156_9 R):=fun x1 x2 x3 x4 x5 kc k0=>
let v6:=decide (x2<x1);(match v6 with
|true=>F193 R x3 x4 x2 fun y7 y8=>
(match bnd x2 x5.length with
|true=>let v9:=x5.set x2.toNat y7;let v10:=y8 !=0;(match v10 with
|true=>(match bnd x2 v9.length with
|true=>let v11:=v9.set x2.toNat (-1:Int);let v12:=IntKind.i64.wrap (x2+1);kc x1 v12 x3 x4 v11
|false=>none)
|false=>let v13:=IntKind.i64.wrap (x2+1);kc x1 v13 x3 x4 v9)
|false=>none)
|false=>k0 x5)
theorem q156_9 (F159:R6) (F192:Vw) (F193:zel) (L9:Nl):LEQ (zbt L9) (e156 F159 F192 F193 L9) Tryz.f156 (zlp F193):=fun _ _ _ _=>by kernel_rfl
def Rj:Nat→Nl
 | 0=>fun _ _ _ _ _ _ _=>none
 | n+1=>fun R x1 x2 x3 x4 x5 k0=>zlp F193 R x1 x2 x3 x4 x5 (fun x1 x2 x3 x4 x5=>Rj n R x1 x2 x3 x4 x5 k0) k0
def p156 (F159:R6) (F192:Vw) (L9:Nl):zru:=fun R a0 a1 a2 a3 k=>
let v1:=decide (a1<1);(match v1 with
|true=>k ([]:LI) (1:Int)
|false=>let v2:=IntKind.i64.wrap (a1 - 1);F159 R (a0,a2,()) v2 fun y3=>
(match (!y3) with
|true=>k ([]:LI) (1:Int)
|false=>F192 R a3 fun y4 y5=>
let v6:=y5 !=0;(match v6 with
|true=>k ([]:LI) y5
|false=>(match (decide (0≤a1∧a1≤a1∧a1≤17592186044416)) with
|true=>let v7:=List.replicate a1.toNat (0:Int);let v8:=(v7.length:Int);L9 R v8 (0:Int) (a0,a2,()) y4 v7 (fun x9=>
k x9 (0:Int))
|false=>none))))
theorem q156 (F159:R6) (F192:Vw) (F193:zel) (L9:Nl):EQ (en156 (p156 F159 F192 L9)) (e156 F159 F192 F193 L9) Tryz.f156 [(.tmp 8,32,false),(.tmp 9,35,false)]:=fun _ _ _=>by kernel_rfl
def F156:zru:=p156 F159 F192 (Rj FUEL)
theorem zxw:LKP (zbt (Rj FUEL)) 0 59 9 Tryz.f156:=ST.lok (q156_9 F159 F192 F193 (Rj FUEL)) (Aa zwj (Aa ok192 (Aa ok193 Ab))) [] trivial
theorem ok156:OKP (en156 F156):=ST.ok1 (q156 F159 F192 F193 (Rj FUEL)) (Aa zwj (Aa ok192 (Aa ok193 Ab))) Tryz.func156 [9] ⟨⟨_,rfl,zxw⟩,trivial⟩
abbrev zr9:=(R:Type)→Tq31→(Int→Tq31→Option R)→Option R
def en107 (F:zr9):Ent:=eM 107 [(true,Kq31)] [(false,(.int .i64))] F
def p107 (F110:Lq) (F153:zrw) (F154:zrv) (F155:FT155) (F156:zru):zr9:=fun R a0 k=>
F153 R a0.1.2.2.2.1 fun y1 y2 y3 y4=>
let v5:=y4 !=0;(match v5 with
|true=>k y4 ((a0.1.1,a0.1.2.1,a0.1.2.2.1,y1,a0.1.2.2.2.2.1,y3,a0.1.2.2.2.2.2.2),a0.2)
|false=>F154 R a0.1.2.2.1 fun y6=>
F155 R y3 fun y7=>
F110 R y6 fun y8=>
F156 R y1.2.1 a0.1.1.1 a0.1.1.2.2.2.1 y8 fun y9 y10=>
k y10 ((a0.1.1,a0.1.2.1,y6,y1,y9,y3,a0.1.2.2.2.2.2.2),(a0.2.1.1,a0.2.1.2.1,y7,y1.2.1,a0.2.1.2.2.2.2),a0.2.2))
theorem q107 (F110:Lq) (F153:zrw) (F154:zrv) (F155:FT155) (F156:zru):EQ (en107 (p107 F110 F153 F154 F155 F156)) (sE 1 88 [] [zco F110,en153 F153,en154 F154,en155 F155,en156 F156] []) Tryz.f107 [(.tmp 2,35,false)]:=fun _ _ _=>by kernel_rfl
def F107:zr9:=p107 F110 F153 F154 F155 F156
theorem ok107:OKP (en107 F107):=ST.ok0 (q107 F110 F153 F154 F155 F156) (Aa zmh (Aa ok153 (Aa ok154 (Aa ok155 (Aa ok156 Ab))))) Tryz.func107
abbrev FT59:=(R:Type)→Tq31→Tq13→(Int→Tq31→Option R)→Option R
def en59 (F:FT59):Ent:=eM 59 [(true,Kq31),(false,Kq13)] [(false,(.int .i64))] F
def p59 (F106:zsa) (F107:zr9):FT59:=fun R a0 a1 k=>
F106 R a0.1.1 a0.1.2.1 fun y1 y2=>
let v3:=IntKind.u64.wrap y1;(match y2 with
|true=>F107 R ((a0.1.1,y1,a0.1.2.2),(a0.2.1.1,v3,a0.2.1.2.2),a0.2.2) fun y4 p5=>
k y4 p5
|false=>k (0:Int) ((a0.1.1,y1,a0.1.2.2),(a0.2.1.1,v3,a0.2.1.2.2),a0.2.2))
theorem q59 (F106:zsa) (F107:zr9):EQ (en59 (p59 F106 F107)) (sE 1 35 [] [en106 F106,en107 F107] []) Tryz.f59 [(.tmp 4,35,false)]:=fun _ _ _=>by kernel_rfl
def F59:FT59:=p59 F106 F107
theorem ok59:OKP (en59 F59):=ST.ok0 (q59 F106 F107) (Aa ok106 (Aa ok107 Ab)) Tryz.func59
abbrev V5:=(R:Type)→Tq31→Int→(Int→Tq31→Option R)→Option R
def zoq (F:V5):Ent:=eM 108 [(true,Kq31),(false,(.int .i64))] [(false,(.int .i64))] F
def p108:V5:=fun R a0 a1 k=>
let v1:=decide (a1<0);(match v1 with
|true=>k (3:Int) a0
|false=>let v2:=decide (a1≥a0.1.1.1);(match v2 with
|true=>k (3:Int) a0
|false=>k (0:Int) a0))
theorem q108:EQ (zoq p108) (sE 1 17 [] [] []) Tryz.f108 [(.tmp 4,35,false)]:=fun _ _ _=>by kernel_rfl
def F108:V5:=p108
theorem ok108:OKP (zoq F108):=ST.ok0 q108 Ab Tryz.func108
abbrev V4:=(R:Type)→LI→(Int→Option R)→Option R
def zz2 (F:V4):Ent:=eV 109 [(.sl (.int .u64))] [(.int .i64)] F
abbrev zvf (Z:Type):=Int→LI→Int→Int→Z
abbrev E109_2 (R:Type):=(Int→Option R)→Option R
abbrev N3:=(R:Type)→zvf (E109_2 R)
def zcg (L:N3):LEnt:=lM 2 [.val 2 (.int .i64),.val 5 (.sl (.int .u64)),.val 6 (.int .i64),.val 7 (.int .i64)] 0 [(.exit 0,[.val 2 (.int .i64)])] L
def e109 (L2:N3):=sE 0 17 [] [] [zcg L2]
def zma (R:Type):zvf (zvf (Option R)→E109_2 R):=fun x1 x2 x3 x4 kc k0=>
let v5:=decide (x4<x3);(match v5 with
|true=>(match bnd x4 x2.length with
|true=>let v6:=x2.getD x4.toNat 0;let v7:=decide (v6>0);(match v7 with
|true=>let v8:=IntKind.i64.wrap (x1+1);let v9:=IntKind.i64.wrap (x4+1);kc v8 x2 x3 v9
|false=>let v10:=IntKind.i64.wrap (x4+1);kc x1 x2 x3 v10)
|false=>none)
|false=>k0 x1)
theorem q109_2 (L2:N3):LEQ (zcg L2) (e109 L2) Tryz.f109 zma:=fun _ _ _ _=>by kernel_rfl
def Rz:Nat→N3
 | 0=>fun _ _ _ _ _ _=>none
 | n+1=>fun R x1 x2 x3 x4 k0=>zma R x1 x2 x3 x4 (fun x1 x2 x3 x4=>Rz n R x1 x2 x3 x4 k0) k0
def p109 (L2:N3):V4:=fun R a0 k=>
let v1:=(a0.length:Int);L2 R (0:Int) a0 v1 (0:Int) (fun x2=>
k x2)
theorem q109 (L2:N3):EQ (zz2 (p109 L2)) (e109 L2) Tryz.f109 [(.tmp 2,3,false)]:=fun _ _ _=>by kernel_rfl
def F109:V4:=p109 (Rz FUEL)
theorem zyk:LKP (zcg (Rz FUEL)) 0 17 2 Tryz.f109:=ST.lok (q109_2 (Rz FUEL)) Ab [] trivial
theorem ok109:OKP (zz2 F109):=ST.ok1 (q109 (Rz FUEL)) Ab Tryz.func109 [2] ⟨⟨_,rfl,zyk⟩,trivial⟩
abbrev FT60:=(R:Type)→Tq31→Tq13→(Int→Tq31→Option R)→Option R
def en60 (F:FT60):Ent:=eM 60 [(true,Kq31),(false,Kq13)] [(false,(.int .i64))] F
def p60 (F108:V5) (F109:V4) (F110:Lq):FT60:=fun R a0 a1 k=>
F108 R a0 a1.2.2.2.2.1 fun y1 p2=>
let v3:=y1 !=0;(match v3 with
|true=>k y1 p2
|false=>F110 R p2.1.2.2.1 fun y4=>
F109 R y4 fun y5=>
let v6:=y5==0;(match v6 with
|true=>k (10:Int) p2
|false=>(match bnd a1.2.2.2.2.1 p2.1.2.2.2.2.1.length with
|true=>let v7:=p2.1.2.2.2.2.1.getD a1.2.2.2.2.1.toNat 0;let v8:=v7==(-1:Int);(match v8 with
|true=>k (9:Int) p2
|false=>(match bnd a1.2.2.2.2.1 p2.1.2.2.2.2.1.length with
|true=>let v9:=p2.1.2.2.2.2.1.getD a1.2.2.2.2.1.toNat 0;let v10:=([v9]:LI);k (0:Int) (p2.1,(p2.2.1.1,p2.2.1.2.1,v10,p2.2.1.2.2.2),p2.2.2)
|false=>none))
|false=>none)))
theorem q60 (F108:V5) (F109:V4) (F110:Lq):EQ (en60 (p60 F108 F109 F110)) (sE 1 45 [] [zoq F108,zz2 F109,zco F110] []) Tryz.f60 [(.tmp 4,35,false)]:=fun _ _ _=>by kernel_rfl
def F60:FT60:=p60 F108 F109 F110
theorem ok60:OKP (en60 F60):=ST.ok0 (q60 F108 F109 F110) (Aa ok108 (Aa ok109 (Aa zmh Ab))) Tryz.func60
abbrev Y9:=(R:Type)→Int→Int→(Int→Bool→Option R)→Option R
def zzg (F:Y9):Ent:=eV 258 [(.int .u64),(.int .u64)] [(.int .u64),.bool] F
def p258 (F96:FT96) (F179:zeo):Y9:=fun R a0 a1 k=>
F96 R a0 a1 fun y1 y2=>
F179 R y2 y1 fun y3 y4=>
k y3 y4
theorem q258 (F96:FT96) (F179:zeo):EQ (zzg (p258 F96 F179)) (sE 0 19 [] [en96 F96,zzq F179] []) Tryz.f258 [(.tmp 4,28,false),(.tmp 5,4,false)]:=fun _ _ _=>by kernel_rfl
def F258:Y9:=p258 F96 F179
theorem ok258:OKP (zzg F258):=ST.ok0 (q258 F96 F179) (Aa ok96 (Aa ok179 Ab)) Tryz.func258
abbrev Za:=(R:Type)→LI→(Int→Int→Option R)→Option R
def en231 (F:Za):Ent:=eV 231 [(.sl (.int .u64))] [(.int .u64),(.int .i64)] F
def p231 (F139:Kl) (F258:Y9):Za:=fun R a0 k=>
let v1:=(a0.length:Int);let v2:=IntKind.u64.wrap v1;let v3:=v2==0;(match v3 with
|true=>k (0:Int) (10:Int)
|false=>F139 R a0 fun y4 y5=>
(match (!y5) with
|true=>k (0:Int) (11:Int)
|false=>let v6:=y4==0;(match v6 with
|true=>k (0:Int) (10:Int)
|false=>F258 R v2 y4 fun y7 y8=>
(match (!y8) with
|true=>k (0:Int) (11:Int)
|false=>k y4 (0:Int)))))
theorem q231 (F139:Kl) (F258:Y9):EQ (en231 (p231 F139 F258)) (sE 0 32 [] [zi4 F139,zzg F258] []) Tryz.f231 [(.tmp 2,28,false),(.tmp 3,35,false)]:=fun _ _ _=>by kernel_rfl
def F231:Za:=p231 F139 F258
theorem ok231:OKP (en231 F231):=ST.ok0 (q231 F139 F258) (Aa zmg (Aa ok258 Ab)) Tryz.func231
abbrev zri:=(R:Type)→LI→(Tq44→Int→Option R)→Option R
def en194 (F:zri):Ent:=eV 194 [(.sl (.int .u64))] [Kq44,(.int .i64)] F
abbrev zug (Z:Type):=LI→Int→LI→Int→Int→Tq44→LI→(List Tq7)→LI→LI→(Int×Unit)→Z
abbrev E194_7 (R:Type):=(Tq44→LI→(List Tq7)→LI→LI→(Int×Unit)→Option R)→Option R
abbrev J5:=(R:Type)→zug (E194_7 R)
def zbh (L:J5):LEnt:=lM 7 [.val 0 (.sl (.int .u64)),.fix 2 (.ptr 0 [] Kq44),.val 4 (.int .u64),.fix 6 (.mptr 6 0 Kq46),.val 28 (.sl (.int .u64)),.val 29 (.int .i64),.val 30 (.int .i64),.var 0 Kq44 false,.row 1 (.int .u64) false,.row 2 Kq7 false,.row 4 (.int .i64) false,.row 5 (.int .i64) false,.mix 6 [((.int .u64),none),((.sl Kq7),some 2),((.sl (.int .u64)),some 1),((.sl (.int .i64)),some 4),((.sl (.int .i64)),some 5)]] 7 [(.exit 0,[.fix 2 (.ptr 0 [] Kq44),.fix 6 (.mptr 6 0 Kq46),.var 0 Kq44 false,.row 1 (.int .u64) false,.row 2 Kq7 false,.row 4 (.int .i64) false,.row 5 (.int .i64) false,.mix 6 [((.int .u64),none),((.sl Kq7),some 2),((.sl (.int .u64)),some 1),((.sl (.int .i64)),some 4),((.sl (.int .i64)),some 5)]])] L
abbrev zfm (Z:Type):=Tq44→LI→(List Tq7)→LI→LI→(Int×Unit)→Z
abbrev ztl (R:Type):=(Tq44→LI→(List Tq7)→LI→LI→(Int×Unit)→Option R)→Option R
abbrev G8:=(R:Type)→zfm (ztl R)
def Ux (L:G8):LEnt:=lM 13 [.fix 2 (.ptr 0 [] Kq44),.fix 6 (.mptr 6 0 Kq46),.var 0 Kq44 false,.row 1 (.int .u64) false,.row 2 Kq7 false,.row 4 (.int .i64) false,.row 5 (.int .i64) false,.mix 6 [((.int .u64),none),((.sl Kq7),some 2),((.sl (.int .u64)),some 1),((.sl (.int .i64)),some 4),((.sl (.int .i64)),some 5)]] 7 [(.exit 2,[.fix 2 (.ptr 0 [] Kq44),.fix 6 (.mptr 6 0 Kq46),.var 0 Kq44 false,.row 1 (.int .u64) false,.row 2 Kq7 false,.row 4 (.int .i64) false,.row 5 (.int .i64) false,.mix 6 [((.int .u64),none),((.sl Kq7),some 2),((.sl (.int .u64)),some 1),((.sl (.int .i64)),some 4),((.sl (.int .i64)),some 5)]])] L
def zou (R:Type):Env R:=⟨TT,EQT,0,37,Bu [],Bc [] R,fun _ _ _=>none,[],Be [],[]⟩
theorem zg4 (R:Type):A4 Tryz.prog (zou R):=⟨tabOK,eqOK,Aq Ab,B0,Al⟩
def e259i0 (R:Type):Env R:=⟨TT,EQT,0,26,Bu [(2,9)],Bc [] R,fun _ _ _=>none,[],Be [],[]⟩
theorem zy3 (R:Type):A4 Tryz.prog (e259i0 R):=⟨tabOK,eqOK,Aq Ab,B0,Al⟩
def e233i0 (R:Type):Env R:=⟨TT,EQT,0,53,Bu [(0,3),(0,7),(3,2)],Bc [] R,fun _ _ _=>none,[],Be [(232,xinl (zou R) (Ah Tryz.f232) [] 2),(259,xinl (e259i0 R) (Ah Tryz.f259) [.tmp 2] 1)],[]⟩
theorem zy6 (R:Type):A4 Tryz.prog (e233i0 R):=⟨tabOK,eqOK,Aq Ab,B0,(A9 (Bb (zg4 R) mixed Tryz.func232 (body:=Ah Tryz.f232) (by kernel_rfl) (by kernel_rfl) (by kernel_rfl) (res:=[]) (by kernel_rfl) (n:=2) (Nat.le_of_ble_eq_true rfl) (by kernel_rfl)) (A9 (Bb (zy3 R) mixed Tryz.func259 (body:=Ah Tryz.f259) (by kernel_rfl) (by kernel_rfl) (by kernel_rfl) (res:=[.tmp 2]) (by kernel_rfl) (n:=1) (Nat.le_of_ble_eq_true rfl) (by kernel_rfl)) Al))⟩
def e194 (F231:Za) (L7:J5) (L13:G8) (R:Type):Env R:=⟨TT,EQT,0,84,Bu [(4,3),(4,4),(11,2),(14,1)],Bc [en231 F231] R,Bm [zbh L7,Ux L13] R,[],Be [(232,xinl (zou R) (Ah Tryz.f232) [] 2),(233,xinl (e233i0 R) (Ah Tryz.f233) [] 1)],[]⟩
def zlf (R:Type):zug (zug (Option R)→E194_7 R):=fun x1 x2 x3 x4 x5 x6 x7 x8 x9 x10 x11 kc k0=>
let v12:=decide (x5<x4);(match v12 with
|true=>(match bnd x5 x3.length with
|true=>let v13:=x3.getD x5.toNat 0;let v14:=(x1.length:Int);let v15:=IntKind.u64.wrap v14;let v16:=IntKind.u64.wrap (v13*v15);(match bnd x5 x7.length with
|true=>let v17:=x7.set x5.toNat v16;let v18:=([(x2,x5,())]:(List Tq7));(match (decide (x8.length+v18.length≤8796093022208)) with
|true=>let v19:=x8++v18;(match bnd x5 v17.length with
|true=>let v20:=v17.getD x5.toNat 0;let v21:=decide (v20<x11.1);(match v21 with
|true=>let v22:=([x5]:LI);(match (decide (x9.length+v22.length≤17592186044416)) with
|true=>let v23:=x9++v22;let v24:=IntKind.i64.wrap (x5+1);kc x1 x2 x3 x4 v24 x6 v17 v19 v23 x10 (x11.1,())
|false=>none)
|false=>let v25:=([x5]:LI);(match (decide (x10.length+v25.length≤17592186044416)) with
|true=>let v26:=x10++v25;let v27:=IntKind.i64.wrap (x5+1);kc x1 x2 x3 x4 v27 x6 v17 v19 x9 v26 (x11.1,())
|false=>none))
|false=>none)
|false=>none)
|false=>none)
|false=>none)
|false=>k0 x6 x7 x8 x9 x10 (x11.1,()))
theorem q194_7 (F231:Za) (L7:J5) (L13:G8):LEQ (zbh L7) (e194 F231 L7 L13) Tryz.f194 zlf:=fun _ _ _ _=>by kernel_rfl
def Le:Nat→J5
 | 0=>fun _ _ _ _ _ _ _ _ _ _ _ _ _=>none
 | n+1=>fun R x1 x2 x3 x4 x5 x6 x7 x8 x9 x10 x11 k0=>zlf R x1 x2 x3 x4 x5 x6 x7 x8 x9 x10 x11 (fun x1 x2 x3 x4 x5 x6 x7 x8 x9 x10 x11=>Le n R x1 x2 x3 x4 x5 x6 x7 x8 x9 x10 x11 k0) k0
def Z7 (R:Type):zfm (zfm (Option R)→ztl R):=fun x1 x2 x3 x4 x5 x6 kc k0=>
let v7:=(x4.length:Int);let v8:=decide (v7>0);(match v8 with
|true=>let v9:=(x5.length:Int);let v10:=decide (v9>0);(match v10 with
|true=>let v11:=(x4.length:Int);let v12:=IntKind.i64.wrap (v11 - 1);(match bnd v12 x4.length with
|true=>let v13:=x4.getD v12.toNat 0;let v14:=(x4.length:Int);let v15:=IntKind.i64.wrap (v14 - 1);(match (decide (0≤v15∧v15≤(x4.length:Int))) with
|true=>let v16:=List.take v15.toNat x4;let v17:=(x5.length:Int);let v18:=IntKind.i64.wrap (v17 - 1);(match bnd v18 x5.length with
|true=>let v19:=x5.getD v18.toNat 0;let v20:=(x5.length:Int);let v21:=IntKind.i64.wrap (v20 - 1);(match (decide (0≤v21∧v21≤(x5.length:Int))) with
|true=>let v22:=List.take v21.toNat x5;(match bnd v13 x2.length with
|true=>let v23:=x2.getD v13.toNat 0;(match bnd v13 x3.length with
|true=>let v24:=x3.set v13.toNat (v23,v19,());(match bnd v19 x2.length with
|true=>let v25:=x2.getD v19.toNat 0;(match bnd v13 x2.length with
|true=>let v26:=x2.getD v13.toNat 0;let v27:=IntKind.u64.wrap (x6.1 - v26);let v28:=IntKind.u64.wrap (v25 - v27);(match bnd v19 x2.length with
|true=>let v29:=x2.set v19.toNat v28;(match bnd v19 v29.length with
|true=>let v30:=v29.getD v19.toNat 0;let v31:=decide (v30<x6.1);(match v31 with
|true=>let v32:=([v19]:LI);(match (decide (v16.length+v32.length≤17592186044416)) with
|true=>let v33:=v16++v32;kc x1 v29 v24 v33 v22 (x6.1,())
|false=>none)
|false=>let v34:=([v19]:LI);(match (decide (v22.length+v34.length≤17592186044416)) with
|true=>let v35:=v22++v34;kc x1 v29 v24 v16 v35 (x6.1,())
|false=>none))
|false=>none)
|false=>none)
|false=>none)
|false=>none)
|false=>none)
|false=>none)
|false=>none)
|false=>none)
|false=>none)
|false=>none)
|false=>k0 x1 x2 x3 x4 x5 (x6.1,()))
|false=>k0 x1 x2 x3 x4 x5 (x6.1,()))
theorem q194_13 (F231:Za) (L7:J5) (L13:G8):LEQ (Ux L13) (e194 F231 L7 L13) Tryz.f194 Z7:=fun _ _ _ _=>by kernel_rfl
def Gi:Nat→G8
 | 0=>fun _ _ _ _ _ _ _ _=>none
 | n+1=>fun R x1 x2 x3 x4 x5 x6 k0=>Z7 R x1 x2 x3 x4 x5 x6 (fun x1 x2 x3 x4 x5 x6=>Gi n R x1 x2 x3 x4 x5 x6 k0) k0
def p194 (F231:Za) (L7:J5) (L13:G8):zri:=fun R a0 k=>
F231 R a0 fun y1 y2=>
let v3:=y2 !=0;(match v3 with
|true=>k ((0:Int),([]:(List Tq7)),()) y2
|false=>let v4:=(a0.length:Int);(match (decide (0≤v4∧v4≤v4∧v4≤17592186044416)) with
|true=>let v5:=List.replicate v4.toNat (0:Int);let v6:=(a0.length:Int);L7 R a0 y1 a0 v6 (0:Int) ((0:Int),([]:(List Tq7)),()) v5 ([]:(List Tq7)) ([]:LI) ([]:LI) (y1,()) (fun x7 x8 x9 x10 x11 x12=>
L13 R x7 x8 x9 x10 x11 (x12.1,()) (fun x13 x14 x15 x16 x17 x18=>
k (x18.1,x15,()) (0:Int)))
|false=>none))
theorem q194 (F231:Za) (L7:J5) (L13:G8):EQ (en194 (p194 F231 L7 L13)) (e194 F231 L7 L13) Tryz.f194 [(.cell 2 215,215,false),(.tmp 3,35,false)]:=fun _ _ _=>by kernel_rfl
def F194:zri:=p194 F231 (Le FUEL) (Gi FUEL)
theorem zn5 (R:Type):A4 Tryz.prog (e194 F231 (Le FUEL) (Gi FUEL) R):=⟨tabOK,eqOK,Aq (Aa ok231 Ab),B0,(A9 (Bb (zg4 R) mixed Tryz.func232 (body:=Ah Tryz.f232) (by kernel_rfl) (by kernel_rfl) (by kernel_rfl) (res:=[]) (by kernel_rfl) (n:=2) (Nat.le_of_ble_eq_true rfl) (by kernel_rfl)) (A9 (Bb (zy6 R) mixed Tryz.func233 (body:=Ah Tryz.f233) (by kernel_rfl) (by kernel_rfl) (by kernel_rfl) (res:=[]) (by kernel_rfl) (n:=1) (Nat.le_of_ble_eq_true rfl) (by kernel_rfl)) Al))⟩
theorem zxk:LKP (zbh (Le FUEL)) 0 84 7 Tryz.f194:=ST.lok3 (q194_7 F231 (Le FUEL) (Gi FUEL)) zn5 (fun _=>rfl) (fun _=>rfl) (fun _=>rfl) [] trivial
theorem zmq:LKP (Ux (Gi FUEL)) 0 84 13 Tryz.f194:=ST.lok3 (q194_13 F231 (Le FUEL) (Gi FUEL)) zn5 (fun _=>rfl) (fun _=>rfl) (fun _=>rfl) [] trivial
theorem ok194:OKP (en194 F194):=ST.ok3 (q194 F231 (Le FUEL) (Gi FUEL)) zn5 Tryz.func194 (fun _=>rfl) (fun _=>rfl) (fun _=>rfl) [7,13] ⟨⟨_,rfl,zxk⟩,⟨⟨_,rfl,zmq⟩,trivial⟩⟩
abbrev zd8:=(R:Type)→Tq7→Tq44→(Bool→Tq44→Option R)→Option R
def en261 (F:zd8):Ent:=eM 261 [(false,Kq7),(true,Kq44)] [(false,.bool)] F
def p261:zd8:=fun R a0 a1 k=>
let v1:=decide (a0.1>a1.1);(match v1 with
|true=>k true a1
|false=>let v2:=decide (a0.2.1<0);(match v2 with
|true=>k true a1
|false=>let v3:=(a1.2.1.length:Int);let v4:=decide (a0.2.1≥v3);k v4 a1))
theorem q261:EQ (en261 p261) (sE 1 22 [] [] []) Tryz.f261 [(.tmp 3,4,false)]:=fun _ _ _=>by kernel_rfl
def F261:zd8:=p261
theorem ok261:OKP (en261 F261):=ST.ok0 q261 Ab Tryz.func261
abbrev He:Type 1:=(R:Type)→(List Tq7)→Tq44→(Int→Tq44→Option R)→Option R
def C5 (F:He):EntC:=⟨276,261,Kq44,[(false,(.sl Kq7))],[(false,(.int .i64))],fun R x c k=>F R x.1 c (fun y1 c1=>k (y1,()) () c1)⟩
def Wz:List (ResultVar×TypeId×Bool):=[(.tmp 4,3,false)]
abbrev E2:Type 1:=(R:Type)→(List Tq7)→Int→Int→Tq44→(Int→Tq44→Option R)→(Tq44→Option R)→Option R
def Bn (L:E2):LEnt:=⟨2,[.val 0 (.sl Kq7),.fix 1 (.clo 261 [(0,Kq44)]),.val 7 (.int .i64),.val 8 (.int .i64),.var 0 Kq44 false],1,[(.ret,[.val 4 (.int .i64),.var 0 Kq44 false]),(.exit 0,[.var 0 Kq44 false])],fun R x ke=>L R x.1 x.2.1 x.2.2.1 x.2.2.2.1 (fun y1 y2=>ke.1 (y1,y2,())) (fun y1=>ke.2.1 (y1,()))⟩
def Qi (F261:zd8) (L2:E2) (R:Type):Env R:=⟨TT,EQT,1,19,Bu [],Bc [en261 F261] R,Bm [Bn L2] R,[],Be [],[]⟩
def Kw (F261:zd8):(R:Type)→(List Tq7)→Int→Int→Tq44→((List Tq7)→Int→Int→Tq44→Option R)→(Int→Tq44→Option R)→(Tq44→Option R)→Option R:=fun R x1 x2 x3 x4 kc k0 k1=>
let v5:=decide (x3<x2);(match v5 with
|true=>(match bnd x3 x1.length with
|true=>let v6:=x1.getD x3.toNat (0,0,());F261 R v6 x4 fun y7 p8=>
(match y7 with
|true=>k0 x3 p8
|false=>let v9:=IntKind.i64.wrap (x3+1);kc x1 x2 v9 p8)
|false=>none)
|false=>k1 x4)
theorem zkh (F261:zd8) (L2:E2) (R:Type) (x:HT (Bn L2).H) (kc:HT (Bn L2).H→Option R) (ke:KT R (Bn L2).exs):
 exec (Qi F261 L2 R) (Cv 2 (Ah Tryz.f276)) (stOf (Bn L2).H x 1) (Od (Bn L2).H (Bn L2).exs kc ke)=
  Kw F261 R x.1 x.2.1 x.2.2.1 x.2.2.2.1 (fun x1 x2 x3 x4=>kc (x1,x2,x3,x4,())) (fun y1 y2=>ke.1 (y1,y2,())) (fun y1=>ke.2.1 (y1,())):=by kernel_rfl
def Bf:Nat→E2
 | 0=>fun _ _ _ _ _ _ _=>none
 | n+1=>fun R x1 x2 x3 x4 k0 k1=>Kw F261 R x1 x2 x3 x4 (fun x1 x2 x3 x4=>Bf n R x1 x2 x3 x4 k0 k1) k0 k1
def Z2 (L2:E2):He:=fun R a0 c0 k=>
let v1:=(a0.length:Int);L2 R a0 v1 (0:Int) c0 (fun x2 x3=>
k x2 x3) (fun x4=>
k (-1:Int) x4)
theorem q277261 (F261:zd8) (L2:E2) (F:He) (R:Type) (x:AT (C5 F).ins) (c:(C5 F).ck.T) (k:RT (C5 F).outs→PT (C5 F).ins→(C5 F).ck.T→Option R):
 xfun (Qi F261 L2 R) (Ah Tryz.f276) Wz (avs (C5 F).ins x++[AV.clo 261 (C5 F).ck c]) (zy0 (C5 F).outs (C5 F).ins (C5 F).ck k)=Z2 L2 R x.1 c (fun y1 c1=>k (y1,()) () c1):=by kernel_rfl
def Do:He:=Z2 (Bf FUEL)
theorem Xr (R:Type):A4 Tryz.prog (Qi F261 (Bf FUEL) R):=⟨tabOK,eqOK,Aq (Aa ok261 Ab),B0,Al⟩
def Il:(R:Type)→HT (Bn (Bf FUEL)).H→(HT (Bn (Bf FUEL)).H→Option R)→KT R (Bn (Bf FUEL)).exs→Option R:=fun R x kc ke=>Kw F261 R x.1 x.2.1 x.2.2.1 x.2.2.2.1 (fun x1 x2 x3 x4=>kc (x1,x2,x3,x4,())) (fun y1 y2=>ke.1 (y1,y2,())) (fun y1=>ke.2.1 (y1,()))
theorem zio:∀(n:Nat) (R:Type) (x:HT (Bn (Bf FUEL)).H) (ke:KT R (Bn (Bf FUEL)).exs),iter Il n R x ke=Bf n R x.1 x.2.1 x.2.2.1 x.2.2.2.1 (fun y1 y2=>ke.1 (y1,y2,())) (fun y1=>ke.2.1 (y1,())):=by
 intro n
 induction n with
 | zero=>intro R x ke; rfl
 | succ n ih=>
  intro R x ke;show Il R x (fun x'=>iter Il n R x' ke) ke=_
  rw [show (fun x'=>iter Il n R x' ke)=fun x=>Bf n R x.1 x.2.1 x.2.2.1 x.2.2.2.1 (fun y1 y2=>ke.1 (y1,y2,())) (fun y1=>ke.2.1 (y1,())) from funext fun x'=>ih R x' ke];rfl
theorem zal:(Bn (Bf FUEL)).OK Tryz.prog 1 19 (Cv 2 (Ah Tryz.f276)):=fun R x ke r h=>
 Ez (fun R=>Qi F261 (Bf FUEL) R) 1 19 (fun _=>rfl) (fun _=>rfl) (fun R=>Xr R) mixed (by
  intro R;rw [show Ar (Cv 2 (Ah Tryz.f276))=[] from by kernel_rfl];exact Bx) (T:=Il) (fun R x kc ke=>zkh F261 (Bf FUEL) R x kc ke) FUEL R x ke r ((zio FUEL R x ke).trans h)
theorem zv9:(C5 Do).OK Tryz.prog:=
 zn6 (Ef:=fun R=>Qi F261 (Bf FUEL) R) (fun R=>Xr R) mixed Tryz.func276 (body:=Ah Tryz.f276) (by kernel_rfl) (by kernel_rfl) (np:=1) (nt:=19) (fun _=>rfl) (fun _=>rfl) (by kernel_rfl) (res:=Wz) (by kernel_rfl) (fun _ _=>rfl) (fun _ _=>Nat.le_of_ble_eq_true rfl) (by
  intro R;rw [show Ar (Ah Tryz.f276)=[Cv 2 (Ah Tryz.f276)] from by kernel_rfl];exact (Ag (I7 (e:=Bn (Bf FUEL)) rfl rfl zal) Bx)) (fun R x c k=>q277261 F261 (Bf FUEL) Do R x c k)
abbrev Hf:Type 1:=(R:Type)→(List Tq7)→Tq44→(Bool→Tq44→Option R)→Option R
def C6 (F:Hf):EntC:=⟨260,261,Kq44,[(false,(.sl Kq7))],[(false,.bool)],fun R x c k=>F R x.1 c (fun y1 c1=>k (y1,()) () c1)⟩
def W0:List (ResultVar×TypeId×Bool):=[(.tmp 4,4,false)]
def zcp (Do:He) (R:Type):Env R:=⟨TT,EQT,1,9,Bu [],Mk [C5 Do] [] [] R,Bm [] R,[],Be [],[]⟩
def Z4 (Do:He):Hf:=fun R a0 c0 k=>
Do R a0 c0 fun y1 p2=>
let v3:=decide (y1≥0);k v3 p2
theorem q261261 (Do:He) (F:Hf) (R:Type) (x:AT (C6 F).ins) (c:(C6 F).ck.T) (k:RT (C6 F).outs→PT (C6 F).ins→(C6 F).ck.T→Option R):
 xfun (zcp Do R) (Ah Tryz.f260) W0 (avs (C6 F).ins x++[AV.clo 261 (C6 F).ck c]) (zy0 (C6 F).outs (C6 F).ins (C6 F).ck k)=Z4 Do R x.1 c (fun y1 c1=>k (y1,()) () c1):=by kernel_rfl
def D0:Hf:=Z4 Do
theorem zn2 (R:Type):A4 Tryz.prog (zcp Do R):=⟨tabOK,eqOK,Mj (X6 zv9 zhh) Eu Ab,B0,Al⟩
theorem zwa:(C6 D0).OK Tryz.prog:=
 zn6 (Ef:=fun R=>zcp Do R) (fun R=>zn2 R) mixed Tryz.func260 (body:=Ah Tryz.f260) (by kernel_rfl) (by kernel_rfl) (np:=1) (nt:=9) (fun _=>rfl) (fun _=>rfl) (by kernel_rfl) (res:=W0) (by kernel_rfl) (fun _ _=>rfl) (fun _ _=>Nat.le_of_ble_eq_true rfl) (by
  intro R;rw [show Ar (Ah Tryz.f260)=[] from by kernel_rfl];exact Bx) (fun R x c k=>q261261 Do D0 R x c k)
abbrev R0:=(R:Type)→Tq44→(Bool→Option R)→Option R
def zi0 (F:R0):Ent:=eV 234 [Kq44] [.bool] F
def e234 (F258:Y9) (D0:Hf) (R:Type):Env R:=⟨TT,EQT,0,33,Bu [],Mk [C6 D0] [] [zzg F258] R,Bm [] R,[],Be [],[]⟩
def p234 (F258:Y9) (D0:Hf):R0:=fun R a0 k=>
let v1:=(a0.2.1.length:Int);let v2:=IntKind.u64.wrap v1;F258 R v2 a0.1 fun y3 y4=>
(match (!y4) with
|true=>k false
|false=>let v5:=(a0.2.1.length:Int);let v6:=v5==0;(match v6 with
|true=>k false
|false=>let v7:=a0.1==0;(match v7 with
|true=>k false
|false=>D0 R a0.2.1 a0 fun y8 p9=>
k (!y8))))
theorem q234 (F258:Y9) (D0:Hf):EQ (zi0 (p234 F258 D0)) (e234 F258 D0) Tryz.f234 [(.tmp 2,4,false)]:=fun _ _ _=>by kernel_rfl
def F234:R0:=p234 F258 D0
theorem env234 (R:Type):A4 Tryz.prog (e234 F258 D0 R):=⟨tabOK,eqOK,Mj (X6 zwa zhh) Eu (Aa ok258 Ab),B0,Al⟩
theorem zwd:OKP (zi0 F234):=ST.ok3 (q234 F258 D0) env234 Tryz.func234 (fun _=>rfl) (fun _=>rfl) (fun _=>rfl) [] trivial
abbrev zef:=(R:Type)→Tq44→(Int→Option R)→Option R
def zzi (F:zef):Ent:=eV 236 [Kq44] [(.int .u64)] F
def p236 (F234:R0):zef:=fun R a0 k=>
F234 R a0 fun y1=>
(match (!y1) with
|true=>k (0:Int)
|false=>let v2:=(a0.2.1.length:Int);let v3:=IntKind.u64.wrap v2;let v4:=IntKind.u64.wrap (v3*a0.1);k v4)
theorem q236 (F234:R0):EQ (zzi (p236 F234)) (sE 0 13 [] [zi0 F234] []) Tryz.f236 [(.tmp 2,28,false)]:=fun _ _ _=>by kernel_rfl
def F236:zef:=p236 F234
theorem ok236:OKP (zzi F236):=ST.ok0 (q236 F234) (Aa zwd Ab) Tryz.func236
abbrev zqr:=(R:Type)→Tq44→Int→(Int→Option R)→Option R
def en280 (F:zqr):Ent:=eV 280 [Kq44,(.int .i64)] [(.int .i64)] F
def p280 (F234:R0):zqr:=fun R a0 a1 k=>
F234 R a0 fun y1=>
(match (!y1) with
|true=>k (1:Int)
|false=>let v2:=decide (a1<0);(match v2 with
|true=>k (3:Int)
|false=>let v3:=(a0.2.1.length:Int);let v4:=decide (a1≥v3);(match v4 with
|true=>k (3:Int)
|false=>k (0:Int))))
theorem q280 (F234:R0):EQ (en280 (p280 F234)) (sE 0 19 [] [zi0 F234] []) Tryz.f280 [(.tmp 4,35,false)]:=fun _ _ _=>by kernel_rfl
def F280:zqr:=p280 F234
theorem ok280:OKP (en280 F280):=ST.ok0 (q280 F234) (Aa zwd Ab) Tryz.func280
abbrev zqw:=(R:Type)→Tq44→Int→Int→(Int→Int→Option R)→Option R
def en265 (F:zqw):Ent:=eV 265 [Kq44,(.int .i64),(.int .u64)] [(.int .i64),(.int .i64)] F
def p265 (F280:zqr):zqw:=fun R a0 a1 a2 k=>
F280 R a0 a1 fun y1=>
let v2:=y1 !=0;(match v2 with
|true=>k (0:Int) y1
|false=>let v3:=decide (a2≥a0.1);(match v3 with
|true=>k (0:Int) (3:Int)
|false=>(match bnd a1 a0.2.1.length with
|true=>let v4:=a0.2.1.getD a1.toNat (0,0,());let v5:=decide (a2≥v4.1);(match v5 with
|true=>k v4.2.1 (0:Int)
|false=>k a1 (0:Int))
|false=>none)))
theorem q265 (F280:zqr):EQ (en265 (p265 F280)) (sE 0 32 [] [en280 F280] []) Tryz.f265 [(.tmp 6,3,false),(.tmp 7,35,false)]:=fun _ _ _=>by kernel_rfl
def F265:zqw:=p265 F280
theorem ok265:OKP (en265 F265):=ST.ok0 (q265 F280) (Aa ok280 Ab) Tryz.func265
abbrev zq3:=(R:Type)→Tq44→Int→(Int→Int→Option R)→Option R
def en237 (F:zq3):Ent:=eV 237 [Kq44,(.int .u64)] [(.int .i64),(.int .i64)] F
def p237 (F234:R0) (F236:zef) (F265:zqw):zq3:=fun R a0 a1 k=>
F234 R a0 fun y1=>
(match (!y1) with
|true=>k (0:Int) (1:Int)
|false=>F236 R a0 fun y2=>
let v3:=decide (a1≥y2);(match v3 with
|true=>k (0:Int) (3:Int)
|false=>(match (!(a0.1==0)) with
|true=>let v4:=IntKind.u64.wrap (Int.tdiv a1 a0.1);let v5:=IntKind.i64.wrap v4;(match (!(a0.1==0)) with
|true=>let v6:=Int.tmod a1 a0.1;F265 R a0 v5 v6 fun y7 y8=>
k y7 y8
|false=>none)
|false=>none)))
theorem q237 (F234:R0) (F236:zef) (F265:zqw):EQ (en237 (p237 F234 F236 F265)) (sE 0 28 [] [zi0 F234,zzi F236,en265 F265] []) Tryz.f237 [(.tmp 4,3,false),(.tmp 5,35,false)]:=fun _ _ _=>by kernel_rfl
def F237:zq3:=p237 F234 F236 F265
theorem ok237:OKP (en237 F237):=ST.ok0 (q237 F234 F236 F265) (Aa zwd (Aa ok236 (Aa ok265 Ab))) Tryz.func237
abbrev zrh:=(R:Type)→Tq44→Tq40→Int→(Int→Tq40→Int→Option R)→Option R
def en195 (F:zrh):Ent:=eV 195 [Kq44,Kq40,(.int .i64)] [(.int .i64),Kq40,(.int .i64)] F
def p195 (F234:R0) (F235:zeg) (F236:zef) (F237:zq3):zrh:=fun R a0 a1 a2 k=>
F234 R a0 fun y1=>
(match (!y1) with
|true=>k (0:Int) a1 (1:Int)
|false=>F236 R a0 fun y2=>
F235 R a1 y2 a2 fun y3 y4 y5=>
let v6:=y5 !=0;(match v6 with
|true=>k (0:Int) y4 y5
|false=>F237 R a0 y3 fun y7 y8=>
k y7 y4 y8))
theorem q195 (F234:R0) (F235:zeg) (F236:zef) (F237:zq3):EQ (en195 (p195 F234 F235 F236 F237)) (sE 0 39 [] [zi0 F234,zzj F235,zzi F236,en237 F237] []) Tryz.f195 [(.tmp 6,3,false),(.cell 7 132,132,false),(.tmp 8,35,false)]:=fun _ _ _=>by kernel_rfl
def F195:zrh:=p195 F234 F235 F236 F237
theorem ok195:OKP (en195 F195):=ST.ok0 (q195 F234 F235 F236 F237) (Aa zwd (Aa ok235 (Aa ok236 (Aa ok237 Ab)))) Tryz.func195
abbrev zrt:=(R:Type)→Tq40→Int→LI→(Int→Tq40→Int→Option R)→Option R
def en160 (F:zrt):Ent:=eV 160 [Kq40,(.int .i64),(.sl (.int .u64))] [(.int .i64),Kq40,(.int .i64)] F
def p160 (F194:zri) (F195:zrh):zrt:=fun R a0 a1 a2 k=>
F194 R a2 fun y1 y2=>
let v3:=y2 !=0;(match v3 with
|true=>k (0:Int) a0 y2
|false=>F195 R y1 a0 a1 fun y4 y5 y6=>
k y4 y5 y6)
theorem q160 (F194:zri) (F195:zrh):EQ (en160 (p160 F194 F195)) (sE 0 27 [] [en194 F194,en195 F195] []) Tryz.f160 [(.tmp 6,3,false),(.cell 7 132,132,false),(.tmp 8,35,false)]:=fun _ _ _=>by kernel_rfl
def F160:zrt:=p160 F194 F195
theorem ok160:OKP (en160 F160):=ST.ok0 (q160 F194 F195) (Aa ok194 (Aa ok195 Ab)) Tryz.func160
abbrev zr8:=(R:Type)→LI→Int→Int→LI→(Int→Int→Option R)→Option R
def en111 (F:zr8):Ent:=eV 111 [(.arr 32 (.int .u8)),(.int .i64),(.int .i64),(.sl (.int .u64))] [(.int .i64),(.int .i64)] F
def p111 (F159:R6) (F160:zrt) (F161:Vz):zr8:=fun R a0 a1 a2 a3 k=>
F159 R (a0,a2,()) a1 fun y1=>
(match (!y1) with
|true=>k (0:Int) (1:Int)
|false=>F161 R (a0,a2,()) (2:Int) a1 fun y2=>
F160 R y2 a2 a3 fun y3 y4 y5=>
k y3 y5)
theorem q111 (F159:R6) (F160:zrt) (F161:Vz):EQ (en111 (p111 F159 F160 F161)) (sE 0 33 [] [zoh F159,en160 F160,zog F161] []) Tryz.f111 [(.tmp 8,3,false),(.tmp 9,35,false)]:=fun _ _ _=>by kernel_rfl
def F111:zr8:=p111 F159 F160 F161
theorem ok111:OKP (en111 F111):=ST.ok0 (q111 F159 F160 F161) (Aa zwj (Aa ok160 (Aa ok161 Ab))) Tryz.func111
abbrev FT61:=(R:Type)→Tq31→Tq13→(Int→Tq31→Option R)→Option R
def en61 (F:FT61):Ent:=eM 61 [(true,Kq31),(false,Kq13)] [(false,(.int .i64))] F
def p61 (F108:V5) (F110:Lq) (F111:zr8):FT61:=fun R a0 a1 k=>
F108 R a0 a1.2.2.2.2.1 fun y1 p2=>
let v3:=y1 !=0;(match v3 with
|true=>k y1 p2
|false=>F110 R p2.1.2.2.1 fun y4=>
F111 R p2.1.2.2.2.1.2.1 a1.2.2.2.2.1 p2.1.1.2.2.2.1 y4 fun y5 y6=>
let v7:=([y5]:LI);k y6 (p2.1,(p2.2.1.1,p2.2.1.2.1,v7,p2.2.1.2.2.2),p2.2.2))
theorem q61 (F108:V5) (F110:Lq) (F111:zr8):EQ (en61 (p61 F108 F110 F111)) (sE 1 46 [] [zoq F108,zco F110,en111 F111] []) Tryz.f61 [(.tmp 4,35,false)]:=fun _ _ _=>by kernel_rfl
def F61:FT61:=p61 F108 F110 F111
theorem ok61:OKP (en61 F61):=ST.ok0 (q61 F108 F110 F111) (Aa ok108 (Aa zmh (Aa ok111 Ab))) Tryz.func61
abbrev zee:=(R:Type)→Int→Tq40→Int→(Bool→Option R)→Option R
def en238 (F:zee):Ent:=eV 238 [(.int .i64),Kq40,(.int .i64)] [.bool] F
def p238 (F266:N9):zee:=fun R a0 a1 a2 k=>
let v1:=decide (a0≥0);(match v1 with
|true=>let v2:=decide (a0≤256);(match v2 with
|true=>F266 R a1 fun y3=>
(match y3 with
|true=>let v4:=decide (a2>0);(match v4 with
|true=>let v5:=decide (a2≤64);k v5
|false=>k false)
|false=>k false)
|false=>k false)
|false=>k false)
theorem q238 (F266:N9):EQ (en238 (p238 F266)) (sE 0 25 [] [ziz F266] []) Tryz.f238 [(.tmp 6,4,false)]:=fun _ _ _=>by kernel_rfl
def F238:zee:=p238 F266
theorem ok238:OKP (en238 F238):=ST.ok0 (q238 F266) (Aa zmc Ab) Tryz.func238
abbrev zed:=(R:Type)→(LI×Unit)→(LI→Option R)→Option R
def en239 (F:zed):Ent:=eV 239 [(.pair (.sl (.int .u64)) .unit)] [(.sl (.int .u64))] F
abbrev zt7 (Z:Type):=Int→LI→Z
abbrev E239_3 (R:Type):=(LI→Option R)→Option R
abbrev M6:=(R:Type)→zt7 (E239_3 R)
def za8 (L:M6):LEnt:=lM 3 [.fix 3 (.own 1 0),.val 4 (.int .i64),.row 1 (.int .u64) false] 2 [(.exit 0,[.fix 3 (.own 1 0),.row 1 (.int .u64) false])] L
def e239 (F228:Ln) (F229:Hg) (L3:M6):=sE 0 36 [] [zzl F228,zi1 F229] [za8 L3]
def zgg (F229:Hg) (R:Type):zt7 (zt7 (Option R)→E239_3 R):=fun x1 x2 kc k0=>
let v3:=decide (x1>0);(match v3 with
|true=>F229 R x1 fun y4=>
let v5:=IntKind.i64.wrap (x1+y4);let v6:=(x2.length:Int);let v7:=decide (v5≤v6);(match v7 with
|true=>let v8:=IntKind.i64.wrap (v5 - 1);(match bnd v8 x2.length with
|true=>let v9:=x2.getD v8.toNat 0;let v10:=IntKind.i64.wrap (x1 - 1);(match bnd v10 x2.length with
|true=>let v11:=x2.getD v10.toNat 0;let v12:=IntKind.u64.wrap (v9 - v11);(match bnd v8 x2.length with
|true=>let v13:=x2.set v8.toNat v12;let v14:=IntKind.i64.wrap (x1 - 1);kc v14 v13
|false=>none)
|false=>none)
|false=>none)
|false=>let v15:=IntKind.i64.wrap (x1 - 1);kc v15 x2)
|false=>k0 x2)
theorem q239_3 (F228:Ln) (F229:Hg) (L3:M6):LEQ (za8 L3) (e239 F228 F229 L3) Tryz.f239 (zgg F229):=fun _ _ _ _=>by kernel_rfl
def Ot:Nat→M6
 | 0=>fun _ _ _ _=>none
 | n+1=>fun R x1 x2 k0=>zgg F229 R x1 x2 (fun x1 x2=>Ot n R x1 x2 k0) k0
def p239 (F228:Ln) (L3:M6):zed:=fun R a0 k=>
F228 R a0.1 fun y1=>
let v2:=(y1.length:Int);L3 R v2 y1 (fun x3=>
k x3)
theorem q239 (F228:Ln) (F229:Hg) (L3:M6):EQ (en239 (p239 F228 L3)) (e239 F228 F229 L3) Tryz.f239 [(.tmp 2,63,false)]:=fun _ _ _=>by kernel_rfl
def F239:zed:=p239 F228 (Ot FUEL)
theorem zxb:LKP (za8 (Ot FUEL)) 0 36 3 Tryz.f239:=ST.lok (q239_3 F228 F229 (Ot FUEL)) (Aa zif (Aa Xc Ab)) [] trivial
theorem ok239:OKP (en239 F239):=ST.ok1 (q239 F228 F229 (Ot FUEL)) (Aa zif (Aa Xc Ab)) Tryz.func239 [3] ⟨⟨_,rfl,zxb⟩,trivial⟩
abbrev zd4:=(R:Type)→(LI×Unit)→Int→(Int→Int→Option R)→Option R
def en267 (F:zd4):Ent:=eV 267 [(.pair (.sl (.int .u64)) .unit),(.int .i64)] [(.int .u64),(.int .i64)] F
def p267 (F274:zd1) (F275:N8):zd4:=fun R a0 a1 k=>
let v1:=decide (a1<0);(match v1 with
|true=>k (0:Int) (3:Int)
|false=>F275 R a0 fun y2=>
let v3:=decide (a1≥y2);(match v3 with
|true=>k (0:Int) (3:Int)
|false=>let v4:=IntKind.i64.wrap (a1+1);F274 R a0 v4 fun y5=>
F274 R a0 a1 fun y6=>
let v7:=IntKind.u64.wrap (y5 - y6);k v7 (0:Int)))
theorem q267 (F274:zd1) (F275:N8):EQ (en267 (p267 F274 F275)) (sE 0 22 [] [zzf F274,zn8 F275] []) Tryz.f267 [(.tmp 4,28,false),(.tmp 5,35,false)]:=fun _ _ _=>by kernel_rfl
def F267:zd4:=p267 F274 F275
theorem ok267:OKP (en267 F267):=ST.ok0 (q267 F274 F275) (Aa ok274 (Aa zmb Ab)) Tryz.func267
abbrev zec:=(R:Type)→(LI×Unit)→Int→Int→((LI×Unit)→Int→Option R)→Option R
def en240 (F:zec):Ent:=eV 240 [(.pair (.sl (.int .u64)) .unit),(.int .i64),(.int .u64)] [(.pair (.sl (.int .u64)) .unit),(.int .i64)] F
abbrev zt6 (Z:Type):=Int→Int→Int→(LI×Unit)→LI→Z
abbrev E240_9 (R:Type):=((LI×Unit)→LI→Option R)→Option R
abbrev M5:=(R:Type)→zt6 (E240_9 R)
def za7 (L:M5):LEnt:=lM 9 [.val 2 (.int .u64),.fix 6 (.ptr 1 [] (.pair (.sl (.int .u64)) .unit)),.val 8 (.int .u64),.fix 12 (.own 2 0),.val 13 (.int .i64),.var 1 (.pair (.sl (.int .u64)) .unit) false,.row 2 (.int .u64) false] 3 [(.exit 0,[.fix 6 (.ptr 1 [] (.pair (.sl (.int .u64)) .unit)),.fix 12 (.own 2 0),.var 1 (.pair (.sl (.int .u64)) .unit) false,.row 2 (.int .u64) false])] L
def e240 (F141:Lp) (F228:Ln) (F229:Hg) (F256:Lm) (F267:zd4) (L9:M5):=sE 0 64 [] [zok F141,zzl F228,zi1 F229,zn9 F256,en267 F267] [za7 L9]
def zk9 (F229:Hg) (R:Type):zt6 (zt6 (Option R)→E240_9 R):=fun x1 x2 x3 x4 x5 kc k0=>
let v6:=(x5.length:Int);let v7:=decide (x3≤v6);(match v7 with
|true=>let v8:=IntKind.i64.wrap (x3 - 1);let v9:=IntKind.i64.wrap (x3 - 1);(match bnd v9 x5.length with
|true=>let v10:=x5.getD v9.toNat 0;let v11:=IntKind.u64.wrap (v10 - x2);let v12:=IntKind.u64.wrap (v11+x1);(match bnd v8 x5.length with
|true=>let v13:=x5.set v8.toNat v12;F229 R x3 fun y14=>
let v15:=IntKind.i64.wrap (x3+y14);kc x1 x2 v15 x4 v13
|false=>none)
|false=>none)
|false=>k0 x4 x5)
theorem q240_9 (F141:Lp) (F228:Ln) (F229:Hg) (F256:Lm) (F267:zd4) (L9:M5):LEQ (za7 L9) (e240 F141 F228 F229 F256 F267 L9) Tryz.f240 (zk9 F229):=fun _ _ _ _=>by kernel_rfl
def Ra:Nat→M5
 | 0=>fun _ _ _ _ _ _ _=>none
 | n+1=>fun R x1 x2 x3 x4 x5 k0=>zk9 F229 R x1 x2 x3 x4 x5 (fun x1 x2 x3 x4 x5=>Ra n R x1 x2 x3 x4 x5 k0) k0
def p240 (F141:Lp) (F228:Ln) (F256:Lm) (F267:zd4) (L9:M5):zec:=fun R a0 a1 a2 k=>
F267 R a0 a1 fun y1 y2=>
let v3:=y2 !=0;(match v3 with
|true=>k (([]:LI),()) y2
|false=>F256 R a0 fun y4=>
let v5:=IntKind.u64.wrap (y4 - y1);F141 R v5 a2 fun y6 y7=>
(match (!y7) with
|true=>k (([]:LI),()) (11:Int)
|false=>F228 R a0.1 fun y8=>
let v9:=IntKind.i64.wrap (a1+1);L9 R a2 y1 v9 (([]:LI),()) y8 (fun x10 x11=>
k (x11,()) (0:Int))))
theorem q240 (F141:Lp) (F228:Ln) (F229:Hg) (F256:Lm) (F267:zd4) (L9:M5):EQ (en240 (p240 F141 F228 F256 F267 L9)) (e240 F141 F228 F229 F256 F267 L9) Tryz.f240 [(.cell 6 87,87,false),(.tmp 7,35,false)]:=fun _ _ _=>by kernel_rfl
def F240:zec:=p240 F141 F228 F256 F267 (Ra FUEL)
theorem zxa:LKP (za7 (Ra FUEL)) 0 64 9 Tryz.f240:=ST.lok (q240_9 F141 F228 F229 F256 F267 (Ra FUEL)) (Aa zmf (Aa zif (Aa Xc (Aa zie (Aa ok267 Ab))))) [] trivial
theorem ok240:OKP (en240 F240):=ST.ok1 (q240 F141 F228 F229 F256 F267 (Ra FUEL)) (Aa zmf (Aa zif (Aa Xc (Aa zie (Aa ok267 Ab))))) Tryz.func240 [9] ⟨⟨_,rfl,zxa⟩,trivial⟩
abbrev zre:=(R:Type)→(LI×Unit)→Int→Tq40→Int→(LI→Tq40→Int→Option R)→Option R
def en198 (F:zre):Ent:=eV 198 [(.pair (.sl (.int .u64)) .unit),(.int .i64),Kq40,(.int .i64)] [(.sl (.int .i64)),Kq40,(.int .i64)] F
abbrev zuf (Z:Type):=Int→Int→(LI×Unit)→Tq40→LI→Tq40→Z
abbrev E198_5 (R:Type):=(Int→Tq40→Option R)→(Tq40→LI→Tq40→Option R)→Option R
abbrev Nf:=(R:Type)→zuf (E198_5 R)
def zbg (L:Nf):LEnt:=lM 5 [.val 1 (.int .i64),.val 3 (.int .i64),.fix 4 (.ptr 0 [] (.pair (.sl (.int .u64)) .unit)),.fix 6 (.ptr 1 [] Kq40),.fix 8 (.own 2 0),.fix 9 (.ptr 3 [] Kq40),.var 0 (.pair (.sl (.int .u64)) .unit) false,.var 1 Kq40 false,.row 2 (.int .i64) false,.var 3 Kq40 false] 4 [(.ret,[.fix 8 .nil,.fix 9 (.ptr 3 [] Kq40),.val 10 (.int .i64),.var 3 Kq40 false]),(.exit 1,[.fix 6 (.ptr 1 [] Kq40),.fix 8 (.own 2 0),.fix 9 (.ptr 3 [] Kq40),.var 1 Kq40 false,.row 2 (.int .i64) false,.var 3 Kq40 false])] L
def e198 (F109:V4) (F230:Vv) (F238:zee) (F239:zed) (F240:zec) (L5:Nf):=sE 0 61 [(0,2)] [zz2 F109,zzk F230,en238 F238,en239 F239,en240 F240] [zbg L5]
def zgj (F230:Vv) (F240:zec) (R:Type):zuf (zuf (Option R)→E198_5 R):=fun x1 x2 x3 x4 x5 x6 kc k0 k1=>
let v7:=(x5.length:Int);let v8:=decide (v7<x1);(match v8 with
|true=>F230 R x3 x4 x2 fun y9 y10 y11=>
let v12:=y11 !=0;(match v12 with
|true=>k0 y11 y10
|false=>let v13:=([y9]:LI);(match (decide (x5.length+v13.length≤17592186044416)) with
|true=>let v14:=x5++v13;F240 R x3 y9 (0:Int) fun y15 y16=>
let v17:=y16 !=0;(match v17 with
|true=>k0 y16 y10
|false=>kc x1 x2 y15 y10 v14 x6)
|false=>none))
|false=>k1 x4 x5 x6)
theorem q198_5 (F109:V4) (F230:Vv) (F238:zee) (F239:zed) (F240:zec) (L5:Nf):LEQ (zbg L5) (e198 F109 F230 F238 F239 F240 L5) Tryz.f198 (zgj F230 F240):=fun _ _ _ _=>by kernel_rfl
def Ow:Nat→Nf
 | 0=>fun _ _ _ _ _ _ _ _ _=>none
 | n+1=>fun R x1 x2 x3 x4 x5 x6 k0 k1=>zgj F230 F240 R x1 x2 x3 x4 x5 x6 (fun x1 x2 x3 x4 x5 x6=>Ow n R x1 x2 x3 x4 x5 x6 k0 k1) k0 k1
def p198 (F109:V4) (F238:zee) (F239:zed) (L5:Nf):zre:=fun R a0 a1 a2 a3 k=>
F238 R a1 a2 a3 fun y1=>
(match (!y1) with
|true=>k ([]:LI) a2 (1:Int)
|false=>F239 R a0 fun y2=>
F109 R y2 fun y3=>
let v4:=decide (y3<a1);(match v4 with
|true=>k ([]:LI) a2 (12:Int)
|false=>L5 R a1 a3 a0 a2 ([]:LI) ((0:Int),([]:LI),(0:Int),(List.replicate 32 (0:Int)),(0:Int),(0:Int),()) (fun x5 x6=>
k ([]:LI) x6 x5) (fun x7 x8 x9=>
k x8 x7 (0:Int))))
theorem q198 (F109:V4) (F230:Vv) (F238:zee) (F239:zed) (F240:zec) (L5:Nf):EQ (en198 (p198 F109 F238 F239 L5)) (e198 F109 F230 F238 F239 F240 L5) Tryz.f198 [(.tmp 8,32,false),(.cell 9 132,132,false),(.tmp 10,35,false)]:=fun _ _ _=>by kernel_rfl
def F198:zre:=p198 F109 F238 F239 (Ow FUEL)
theorem zxj:LKP (zbg (Ow FUEL)) 0 61 5 Tryz.f198:=ST.lok (q198_5 F109 F230 F238 F239 F240 (Ow FUEL)) (Aa ok109 (Aa ok230 (Aa ok238 (Aa ok239 (Aa ok240 Ab))))) [] trivial
theorem ok198:OKP (en198 F198):=ST.ok1 (q198 F109 F230 F238 F239 F240 (Ow FUEL)) (Aa ok109 (Aa ok230 (Aa ok238 (Aa ok239 (Aa ok240 Ab))))) Tryz.func198 [5] ⟨⟨_,rfl,zxj⟩,trivial⟩
abbrev zrs:=(R:Type)→Int→Tq40→Int→LI→(LI→Tq40→Int→Option R)→Option R
def en162 (F:zrs):Ent:=eV 162 [(.int .i64),Kq40,(.int .i64),(.sl (.int .u64))] [(.sl (.int .i64)),Kq40,(.int .i64)] F
def p162 (F192:Vw) (F198:zre):zrs:=fun R a0 a1 a2 a3 k=>
F192 R a3 fun y1 y2=>
let v3:=y2 !=0;(match v3 with
|true=>k ([]:LI) a1 y2
|false=>F198 R y1 a0 a1 a2 fun y4 y5 y6=>
k y4 y5 y6)
theorem q162 (F192:Vw) (F198:zre):EQ (en162 (p162 F192 F198)) (sE 0 30 [] [zzp F192,en198 F198] []) Tryz.f162 [(.tmp 8,32,false),(.cell 9 132,132,false),(.tmp 10,35,false)]:=fun _ _ _=>by kernel_rfl
def F162:zrs:=p162 F192 F198
theorem ok162:OKP (en162 F162):=ST.ok0 (q162 F192 F198) (Aa ok192 (Aa ok198 Ab)) Tryz.func162
abbrev zr7:=(R:Type)→LI→Int→Int→Int→LI→(LI→Int→Option R)→Option R
def en112 (F:zr7):Ent:=eV 112 [(.arr 32 (.int .u8)),(.int .i64),(.int .i64),(.int .i64),(.sl (.int .u64))] [(.sl (.int .i64)),(.int .i64)] F
def p112 (F159:R6) (F161:Vz) (F162:zrs):zr7:=fun R a0 a1 a2 a3 a4 k=>
F159 R (a0,a3,()) a1 fun y1=>
(match (!y1) with
|true=>k ([]:LI) (1:Int)
|false=>F161 R (a0,a3,()) (3:Int) a1 fun y2=>
F162 R a2 y2 a3 a4 fun y3 y4 y5=>
k y3 y5)
theorem q112 (F159:R6) (F161:Vz) (F162:zrs):EQ (en112 (p112 F159 F161 F162)) (sE 0 36 [] [zoh F159,zog F161,en162 F162] []) Tryz.f112 [(.tmp 10,32,false),(.tmp 11,35,false)]:=fun _ _ _=>by kernel_rfl
def F112:zr7:=p112 F159 F161 F162
theorem ok112:OKP (en112 F112):=ST.ok0 (q112 F159 F161 F162) (Aa zwj (Aa ok161 (Aa ok162 Ab))) Tryz.func112
abbrev FT62:=(R:Type)→Tq31→Tq13→(Int→Tq31→Option R)→Option R
def en62 (F:FT62):Ent:=eM 62 [(true,Kq31),(false,Kq13)] [(false,(.int .i64))] F
def p62 (F108:V5) (F110:Lq) (F112:zr7):FT62:=fun R a0 a1 k=>
F108 R a0 a1.2.2.2.2.1 fun y1 p2=>
let v3:=y1 !=0;(match v3 with
|true=>k y1 p2
|false=>F110 R p2.1.2.2.1 fun y4=>
F112 R p2.1.2.2.2.1.2.1 a1.2.2.2.2.1 a1.2.1 p2.1.1.2.2.2.1 y4 fun y5 y6=>
k y6 (p2.1,(p2.2.1.1,p2.2.1.2.1,y5,p2.2.1.2.2.2),p2.2.2))
theorem q62 (F108:V5) (F110:Lq) (F112:zr7):EQ (en62 (p62 F108 F110 F112)) (sE 1 44 [] [zoq F108,zco F110,en112 F112] []) Tryz.f62 [(.tmp 4,35,false)]:=fun _ _ _=>by kernel_rfl
def F62:FT62:=p62 F108 F110 F112
theorem ok62:OKP (en62 F62):=ST.ok0 (q62 F108 F110 F112) (Aa ok108 (Aa zmh (Aa ok112 Ab))) Tryz.func62
abbrev FT63:=(R:Type)→Tq31→Tq13→(Int→Tq31→Option R)→Option R
def en63 (F:FT63):Ent:=eM 63 [(true,Kq31),(false,Kq13)] [(false,(.int .i64))] F
def p63 (F100:R7):FT63:=fun R a0 a1 k=>
F100 R a0 a1.2.1 fun y1 p2=>
let v3:=y1 !=0;(match v3 with
|true=>k y1 p2
|false=>(match bnd a1.2.1 p2.1.2.2.1.length with
|true=>let v4:=p2.1.2.2.1.getD a1.2.1.toNat ((List.replicate 32 0),0,0,());let v5:=a1.2.2.2.2.1==0;(match v5 with
|true=>k (0:Int) (p2.1,(p2.2.1.1,v4.2.1,p2.2.1.2.2),p2.2.2)
|false=>k (0:Int) (p2.1,(p2.2.1.1,v4.2.2.1,p2.2.1.2.2),p2.2.2))
|false=>none))
theorem q63 (F100:R7):EQ (en63 (p63 F100)) (sE 1 38 [] [zor F100] []) Tryz.f63 [(.tmp 4,35,false)]:=fun _ _ _=>by kernel_rfl
def F63:FT63:=p63 F100
theorem ok63:OKP (en63 F63):=ST.ok0 (q63 F100) (Aa ok100 Ab) Tryz.func63
abbrev FT64:=(R:Type)→Tq31→Tq13→(Int→Tq31→Option R)→Option R
def en64 (F:FT64):Ent:=eM 64 [(true,Kq31),(false,Kq13)] [(false,(.int .i64))] F
def p64:FT64:=fun R a0 a1 k=>
k (0:Int) (a0.1,(a0.2.1.1,a0.1.2.2.2.1.1,a0.2.1.2.2.1,a0.1.2.2.2.1.2.1,a0.2.1.2.2.2.2),a0.2.2)
theorem q64:EQ (en64 p64) (sE 1 25 [] [] []) Tryz.f64 [(.tmp 4,35,false)]:=fun _ _ _=>by kernel_rfl
def F64:FT64:=p64
theorem ok64:OKP (en64 F64):=ST.ok0 q64 Ab Tryz.func64
abbrev zek:Type 1:=(R:Type)→LI→(LI→Option R)→Option R
def en200 (F:zek):Ent:=⟨200,[(false,(.sl (.int .u8)))],[(true,(.int .u8))],fun R x k=>F R x.1 (fun y1=>k (y1,()) ())⟩
def e200:Env (RT [(true,(.int .u8))]):=⟨TT,EQT,0,8,Bu [(2,0),(3,0)],fun _ _ _=>none,fun _ _ _=>none,[],Be [],[]⟩
def F200:zek:=fun R a0 k=>match decide (List.length ([]:LI)+a0.length≤140737488355328) with | true=>k a0 | false=>none
theorem ok200:(en200 F200).OK Tryz.prog:=
 Ja (e:=(.int .u8)) e200 ⟨tabOK,eqOK,(fun f b K r h=>by cases h),B0,Al⟩ mixed Tryz.func200 (body:=Ah Tryz.f200) (by kernel_rfl) (by kernel_rfl) (by kernel_rfl) (res:=[(.tmp 2,93,true)]) (by kernel_rfl) rfl (by decide) (by kernel_rfl) (lim:=140737488355328) (by kernel_rfl) (fun l=>by kernel_rfl)
abbrev zrr:=(R:Type)→(Tq9→Option R)→Option R
def en163 (F:zrr):Ent:=eV 163 [] [Kq9] F
def p163:zrr:=fun R k=>
k ((32:Int),(FnV.fn 199),(FnV.fn 201),())
theorem q163:EQ (en163 p163) (sE 0 2 [] [] []) Tryz.f163 [(.cell 0 167,167,false)]:=fun _ _ _=>by kernel_rfl
def F163:zrr:=p163
theorem ok163:OKP (en163 F163):=ST.ok0 q163 Ab Tryz.func163
abbrev Ze:=(R:Type)→LI→(Int→Option R)→Option R
def zzo (F:Ze):Ent:=eV 205 [(.arr 8 (.int .u8))] [(.int .u64)] F
abbrev zud (Z:Type):=Int→LI→Int→Z
abbrev E205_2 (R:Type):=(Int→Option R)→Option R
abbrev Nc:=(R:Type)→zud (E205_2 R)
def zbe (L:Nc):LEnt:=lM 2 [.val 2 (.int .u64),.val 5 (.arr 8 (.int .u8)),.val 6 (.int .i64)] 0 [(.exit 0,[.val 2 (.int .u64)])] L
def e205 (L2:Nc):=sE 0 16 [] [] [zbe L2]
def zld (R:Type):zud (zud (Option R)→E205_2 R):=fun x1 x2 x3 kc k0=>
let v4:=decide (x3<8);(match v4 with
|true=>(match (bnd x3 (8:Int)) with
|true=>let v5:=x2.getD x3.toNat 0;let v6:=ishl .u64 x1 (8:Int);let v7:=IntKind.u64.wrap v5;let v8:=ior .u64 v6 v7;let v9:=IntKind.i64.wrap (x3+1);kc v8 x2 v9
|false=>none)
|false=>k0 x1)
theorem q205_2 (L2:Nc):LEQ (zbe L2) (e205 L2) Tryz.f205 zld:=fun _ _ _ _=>by kernel_rfl
def Tx:Nat→Nc
 | 0=>fun _ _ _ _ _=>none
 | n+1=>fun R x1 x2 x3 k0=>zld R x1 x2 x3 (fun x1 x2 x3=>Tx n R x1 x2 x3 k0) k0
def p205 (L2:Nc):Ze:=fun R a0 k=>
L2 R (0:Int) a0 (0:Int) (fun x1=>
k x1)
theorem q205 (L2:Nc):EQ (zzo (p205 L2)) (e205 L2) Tryz.f205 [(.tmp 2,28,false)]:=fun _ _ _=>by kernel_rfl
def F205:Ze:=p205 (Tx FUEL)
theorem zxh:LKP (zbe (Tx FUEL)) 0 16 2 Tryz.f205:=ST.lok (q205_2 (Tx FUEL)) Ab [] trivial
theorem ok205:OKP (zzo F205):=ST.ok1 (q205 (Tx FUEL)) Ab Tryz.func205 [2] ⟨⟨_,rfl,zxh⟩,trivial⟩
abbrev zrq:=(R:Type)→(Tq9→Option R)→Option R
def en164 (F:zrq):Ent:=eV 164 [] [Kq9] F
def p164:zrq:=fun R k=>
k ((8:Int),(FnV.fn 202),(FnV.fn 204),())
theorem q164:EQ (en164 p164) (sE 0 2 [] [] []) Tryz.f164 [(.cell 0 167,167,false)]:=fun _ _ _=>by kernel_rfl
def F164:zrq:=p164
theorem ok164:OKP (en164 F164):=ST.ok0 q164 Ab Tryz.func164
abbrev Hi:Type 1:=(R:Type)→(Tq9→Option R)→Option R
def F1 (F:Hi):EntF:=⟨206,207,[],[(false,Kq9)],fun R x k=>F R  (fun y1=>k (y1,()) ())⟩
def W2:List (ResultVar×TypeId×Bool):=[(.cell 2 167,167,false)]
def zcr (R:Type):Env R:=⟨TT,EQT,0,6,Bu [],Bc [] R,Bm [] R,[],Be [],[]⟩
def Z6:Hi:=fun R k=>
k ((4:Int),(FnV.clo 241 (FnV.fn 207)),(FnV.clo 243 (FnV.fn 207)),())
theorem q207207 (F:Hi) (R:Type) (x:AT (F1 F).ins) (k:RT (F1 F).outs→PT (F1 F).ins→Option R):
 xfun (zcr R) (Ah Tryz.f206) W2 (avs (F1 F).ins x++[AV.fn 207]) (finK (F1 F).outs (F1 F).ins k)=Z6 R  (fun y1=>k (y1,()) ()):=by kernel_rfl
def D2:Hi:=Z6
theorem zn4 (R:Type):A4 Tryz.prog (zcr R):=⟨tabOK,eqOK,Aq Ab,B0,Al⟩
theorem zwg:(F1 D2).OK Tryz.prog:=
 Jx (Ef:=fun R=>zcr R) (fun R=>zn4 R) mixed Tryz.func206 (body:=Ah Tryz.f206) (by kernel_rfl) (by kernel_rfl) (np:=0) (nt:=6) (fun _=>rfl) (fun _=>rfl) (by kernel_rfl) (res:=W2) (by kernel_rfl) (fun _=>rfl) (fun _=>Nat.le_of_ble_eq_true rfl) (by
  intro R;rw [show Ar (Ah Tryz.f206)=[] from by kernel_rfl];exact Bx) (fun R x k=>q207207 D2 R x k)
abbrev zrp:=(R:Type)→(Tq9→Option R)→Option R
def en165 (F:zrp):Ent:=eV 165 [] [Kq9] F
def e165 (D2:Hi) (R:Type):Env R:=⟨TT,EQT,0,2,Bu [],Ek [F1 D2] [] R,Bm [] R,[],Be [],[]⟩
def p165 (D2:Hi):zrp:=fun R k=>
D2 R  fun y1=>
k y1
theorem q165 (D2:Hi):EQ (en165 (p165 D2)) (e165 D2) Tryz.f165 [(.cell 0 167,167,false)]:=fun _ _ _=>by kernel_rfl
def F165:zrp:=p165 D2
theorem env165 (R:Type):A4 Tryz.prog (e165 D2 R):=⟨tabOK,eqOK,Cy (Ft zwg Eu) Ab,B0,Al⟩
theorem ok165:OKP (en165 F165):=ST.ok3 (q165 D2) env165 Tryz.func165 (fun _=>rfl) (fun _=>rfl) (fun _=>rfl) [] trivial
abbrev Hh:Type 1:=(R:Type)→(Tq9→Option R)→Option R
def F0 (F:Hh):EntF:=⟨206,208,[],[(false,Kq9)],fun R x k=>F R  (fun y1=>k (y1,()) ())⟩
def W1:List (ResultVar×TypeId×Bool):=[(.cell 2 167,167,false)]
def zcq (R:Type):Env R:=⟨TT,EQT,0,6,Bu [],Bc [] R,Bm [] R,[],Be [],[]⟩
def Z5:Hh:=fun R k=>
k ((4:Int),(FnV.clo 241 (FnV.fn 208)),(FnV.clo 243 (FnV.fn 208)),())
theorem q207208 (F:Hh) (R:Type) (x:AT (F0 F).ins) (k:RT (F0 F).outs→PT (F0 F).ins→Option R):
 xfun (zcq R) (Ah Tryz.f206) W1 (avs (F0 F).ins x++[AV.fn 208]) (finK (F0 F).outs (F0 F).ins k)=Z5 R  (fun y1=>k (y1,()) ()):=by kernel_rfl
def D1:Hh:=Z5
theorem zn3 (R:Type):A4 Tryz.prog (zcq R):=⟨tabOK,eqOK,Aq Ab,B0,Al⟩
theorem zwf:(F0 D1).OK Tryz.prog:=
 Jx (Ef:=fun R=>zcq R) (fun R=>zn3 R) mixed Tryz.func206 (body:=Ah Tryz.f206) (by kernel_rfl) (by kernel_rfl) (np:=0) (nt:=6) (fun _=>rfl) (fun _=>rfl) (by kernel_rfl) (res:=W1) (by kernel_rfl) (fun _=>rfl) (fun _=>Nat.le_of_ble_eq_true rfl) (by
  intro R;rw [show Ar (Ah Tryz.f206)=[] from by kernel_rfl];exact Bx) (fun R x k=>q207208 D1 R x k)
abbrev zro:=(R:Type)→(Tq9→Option R)→Option R
def en166 (F:zro):Ent:=eV 166 [] [Kq9] F
def e166 (D1:Hh) (R:Type):Env R:=⟨TT,EQT,0,2,Bu [],Ek [F0 D1] [] R,Bm [] R,[],Be [],[]⟩
def p166 (D1:Hh):zro:=fun R k=>
D1 R  fun y1=>
k y1
theorem q166 (D1:Hh):EQ (en166 (p166 D1)) (e166 D1) Tryz.f166 [(.cell 0 167,167,false)]:=fun _ _ _=>by kernel_rfl
def F166:zro:=p166 D1
theorem env166 (R:Type):A4 Tryz.prog (e166 D1 R):=⟨tabOK,eqOK,Cy (Ft zwf Eu) Ab,B0,Al⟩
theorem ok166:OKP (en166 F166):=ST.ok3 (q166 D1) env166 Tryz.func166 (fun _=>rfl) (fun _=>rfl) (fun _=>rfl) [] trivial
abbrev Km:=(R:Type)→Int→((List Tq9)→Bool→Option R)→Option R
def zop (F:Km):Ent:=eV 113 [(.int .i64)] [(.sl Kq9),.bool] F
def p113 (F163:zrr) (F164:zrq) (F165:zrp) (F166:zro):Km:=fun R a0 k=>
let v1:=a0==1;(match v1 with
|true=>F163 R  fun y2=>
F164 R  fun y3=>
let v4:=([y2,y3]:(List Tq9));k v4 true
|false=>let v5:=a0==2;(match v5 with
|true=>F165 R  fun y6=>
F164 R  fun y7=>
let v8:=([y6,y7]:(List Tq9));k v8 true
|false=>let v9:=a0==3;(match v9 with
|true=>F165 R  fun y10=>
F164 R  fun y11=>
let v12:=([y10,y11]:(List Tq9));k v12 true
|false=>let v13:=a0==4;(match v13 with
|true=>F165 R  fun y14=>
F163 R  fun y15=>
let v16:=([y14,y15]:(List Tq9));k v16 true
|false=>let v17:=a0==5;(match v17 with
|true=>F165 R  fun y18=>
F163 R  fun y19=>
let v20:=([y18,y19]:(List Tq9));k v20 true
|false=>let v21:=a0==6;(match v21 with
|true=>k ([]:(List Tq9)) true
|false=>let v22:=a0==11;(match v22 with
|true=>k ([]:(List Tq9)) true
|false=>let v23:=a0==7;(match v23 with
|true=>F166 R  fun y24=>
let v25:=([y24]:(List Tq9));k v25 true
|false=>let v26:=a0==8;(match v26 with
|true=>F166 R  fun y27=>
let v28:=([y27]:(List Tq9));k v28 true
|false=>let v29:=a0==9;(match v29 with
|true=>F166 R  fun y30=>
F165 R  fun y31=>
let v32:=([y30,y31]:(List Tq9));k v32 true
|false=>let v33:=a0==10;(match v33 with
|true=>F165 R  fun y34=>
F166 R  fun y35=>
let v36:=([y34,y35]:(List Tq9));k v36 true
|false=>k ([]:(List Tq9)) false)))))))))))
theorem q113 (F163:zrr) (F164:zrq) (F165:zrp) (F166:zro):EQ (zop (p113 F163 F164 F165 F166)) (sE 0 40 [] [en163 F163,en164 F164,en165 F165,en166 F166] []) Tryz.f113 [(.tmp 2,162,false),(.tmp 3,4,false)]:=fun _ _ _=>by kernel_rfl
def F113:Km:=p113 F163 F164 F165 F166
theorem zwo:OKP (zop F113):=ST.ok0 (q113 F163 F164 F165 F166) (Aa ok163 (Aa ok164 (Aa ok165 (Aa ok166 Ab)))) Tryz.func113
abbrev FT65:=(R:Type)→Tq13→(LI→Option R)→Option R
def en65 (F:FT65):Ent:=eV 65 [Kq13] [(.sl (.int .u8))] F
abbrev D65_6 (Z:Type):=(List Tq9)→Int→Int→Tq13→LI→Z
abbrev E65_6 (R:Type):=(LI→Option R)→Option R
abbrev Tg:=(R:Type)→D65_6 (E65_6 R)
def zm7 (L:Tg):LEnt:=lM 6 [.fix 1 (.ptr 0 [] Kq13),.fix 5 (.own 1 0),.val 24 (.sl Kq9),.val 25 (.int .i64),.val 26 (.int .i64),.var 0 Kq13 false,.row 1 (.int .u8) false] 2 [(.exit 0,[.fix 5 (.own 1 0),.row 1 (.int .u8) false])] L
def e199i0 (F200:zek) (R:Type):Env R:=⟨TT,EQT,0,6,Bu [],Bc [en200 F200] R,fun _ _ _=>none,[],Be [],[]⟩
theorem zza (R:Type):A4 Tryz.prog (e199i0 F200 R):=⟨tabOK,eqOK,Aq (Aa ok200 Ab),B0,Al⟩
def e202i0 (F203:Lo) (R:Type):Env R:=⟨TT,EQT,0,8,Bu [],Bc [zcn F203] R,fun _ _ _=>none,[],Be [],[]⟩
theorem zy8 (R:Type):A4 Tryz.prog (e202i0 F203 R):=⟨tabOK,eqOK,Aq (Aa zme Ab),B0,Al⟩
def zow (R:Type):Env R:=⟨TT,EQT,0,6,Bu [],Bc [] R,fun _ _ _=>none,[],Be [],[]⟩
theorem zg6 (R:Type):A4 Tryz.prog (zow R):=⟨tabOK,eqOK,Aq Ab,B0,Al⟩
def zov (R:Type):Env R:=⟨TT,EQT,0,6,Bu [],Bc [] R,fun _ _ _=>none,[],Be [],[]⟩
theorem zg5 (R:Type):A4 Tryz.prog (zov R):=⟨tabOK,eqOK,Aq Ab,B0,Al⟩
def e241i0 (F242:Pd) (R:Type):Env R:=⟨TT,EQT,0,12,Bu [(1,1)],Bc [zod F242] R,fun _ _ _=>none,[],Be [(207,xinl (zow R) (Ah Tryz.f207) [.tmp 2] 1),(208,xinl (zov R) (Ah Tryz.f208) [.tmp 2] 1)],[(FnV.fn 207),(FnV.fn 208)]⟩
theorem zy5 (R:Type):A4 Tryz.prog (e241i0 F242 R):=⟨tabOK,eqOK,Aq (Aa zwc Ab),B0,(A9 (Bb (zg6 R) mixed Tryz.func207 (body:=Ah Tryz.f207) (by kernel_rfl) (by kernel_rfl) (by kernel_rfl) (res:=[.tmp 2]) (by kernel_rfl) (n:=1) (Nat.le_of_ble_eq_true rfl) (by kernel_rfl)) (A9 (Bb (zg5 R) mixed Tryz.func208 (body:=Ah Tryz.f208) (by kernel_rfl) (by kernel_rfl) (by kernel_rfl) (res:=[.tmp 2]) (by kernel_rfl) (n:=1) (Nat.le_of_ble_eq_true rfl) (by kernel_rfl)) Al))⟩
def e65 (F113:Km) (F200:zek) (F203:Lo) (F242:Pd) (L6:Tg) (R:Type):Env R:=⟨TT,EQT,0,38,Bu [(4,3),(8,4)],Bc [zop F113,en200 F200,zcn F203,zod F242] R,Bm [zm7 L6] R,[],Be [(199,xinl (e199i0 F200 R) (Ah Tryz.f199) [.tmp 2] 1),(202,xinl (e202i0 F203 R) (Ah Tryz.f202) [.tmp 2] 1),(241,xinl (e241i0 F242 R) (Ah Tryz.f241) [.tmp 3] 2)],[(FnV.fn 199),(FnV.fn 202),(FnV.clo 241 (FnV.fn 207)),(FnV.clo 241 (FnV.fn 208))]⟩
def p65_6 (F200:zek) (F203:Lo) (F242:Pd) (R:Type):D65_6 (D65_6 (Option R)→E65_6 R):=fun x1 x2 x3 x4 x5 kc k0=>
let v6:=decide (x3<x2);(match v6 with
|true=>(match bnd x3 x1.length with
|true=>let v7:=x1.getD x3.toNat (0,FnV.nil,FnV.nil,());(match (FnV.same v7.2.1 (FnV.fn 199)) with
|true=>F200 R (List.take 32 (List.drop 0 x4.2.2.2.1)) fun y8=>
(match (decide (x5.length+y8.length≤140737488355328)) with
|true=>let v9:=x5++y8;let v10:=IntKind.i64.wrap (x3+1);kc x1 x2 v10 x4 v9
|false=>none)
|false=>(match (FnV.same v7.2.1 (FnV.fn 202)) with
|true=>F203 R x4.2.2.1 fun y11=>
(match (decide (x5.length+List.length (List.take 8 (List.drop 0 y11))≤140737488355328)) with
|true=>let v12:=x5++(List.take 8 (List.drop 0 y11));let v13:=IntKind.i64.wrap (x3+1);kc x1 x2 v13 x4 v12
|false=>none)
|false=>(match (FnV.same v7.2.1 (FnV.clo 241 (FnV.fn 207))) with
|true=>let v14:=IntKind.u32.wrap x4.2.1;F242 R v14 fun y15=>
(match (decide (x5.length+List.length (List.take 4 (List.drop 0 y15))≤140737488355328)) with
|true=>let v16:=x5++(List.take 4 (List.drop 0 y15));let v17:=IntKind.i64.wrap (x3+1);kc x1 x2 v17 x4 v16
|false=>none)
|false=>(match (FnV.same v7.2.1 (FnV.clo 241 (FnV.fn 208))) with
|true=>let v18:=IntKind.u32.wrap x4.2.2.2.2.1;F242 R v18 fun y19=>
(match (decide (x5.length+List.length (List.take 4 (List.drop 0 y19))≤140737488355328)) with
|true=>let v20:=x5++(List.take 4 (List.drop 0 y19));let v21:=IntKind.i64.wrap (x3+1);kc x1 x2 v21 x4 v20
|false=>none)
|false=>none))))
|false=>none)
|false=>k0 x5)
theorem q65_6 (F113:Km) (F200:zek) (F203:Lo) (F242:Pd) (L6:Tg):LEQ (zm7 L6) (e65 F113 F200 F203 F242 L6) Tryz.f65 (p65_6 F200 F203 F242):=fun _ _ _ _=>by kernel_rfl
def Ym:Nat→Tg
 | 0=>fun _ _ _ _ _ _ _=>none
 | n+1=>fun R x1 x2 x3 x4 x5 k0=>p65_6 F200 F203 F242 R x1 x2 x3 x4 x5 (fun x1 x2 x3 x4 x5=>Ym n R x1 x2 x3 x4 x5 k0) k0
def p65 (F113:Km) (L6:Tg):FT65:=fun R a0 k=>
F113 R a0.1 fun y1 y2=>
(match (!y2) with
|true=>let v3:=IntKind.u8.wrap a0.2.2.2.2.1;let v4:=([v3]:LI);k v4
|false=>let v5:=IntKind.u8.wrap a0.1;let v6:=([v5]:LI);let v7:=(y1.length:Int);L6 R y1 v7 (0:Int) a0 v6 (fun x8=>
k x8))
theorem q65 (F113:Km) (F200:zek) (F203:Lo) (F242:Pd) (L6:Tg):EQ (en65 (p65 F113 L6)) (e65 F113 F200 F203 F242 L6) Tryz.f65 [(.tmp 2,93,false)]:=fun _ _ _=>by kernel_rfl
def F65:FT65:=p65 F113 (Ym FUEL)
theorem env65 (R:Type):A4 Tryz.prog (e65 F113 F200 F203 F242 (Ym FUEL) R):=⟨tabOK,eqOK,Aq (Aa zwo (Aa ok200 (Aa zme (Aa zwc Ab)))),B0,(A9 (Bb (zza R) mixed Tryz.func199 (body:=Ah Tryz.f199) (by kernel_rfl) (by kernel_rfl) (by kernel_rfl) (res:=[.tmp 2]) (by kernel_rfl) (n:=1) (Nat.le_of_ble_eq_true rfl) (by kernel_rfl)) (A9 (Bb (zy8 R) mixed Tryz.func202 (body:=Ah Tryz.f202) (by kernel_rfl) (by kernel_rfl) (by kernel_rfl) (res:=[.tmp 2]) (by kernel_rfl) (n:=1) (Nat.le_of_ble_eq_true rfl) (by kernel_rfl)) (A9 (Bb (zy5 R) mixed Tryz.func241 (body:=Ah Tryz.f241) (by kernel_rfl) (by kernel_rfl) (by kernel_rfl) (res:=[.tmp 3]) (by kernel_rfl) (n:=2) (Nat.le_of_ble_eq_true rfl) (by kernel_rfl)) Al)))⟩
theorem lok65_6:LKP (zm7 (Ym FUEL)) 0 38 6 Tryz.f65:=ST.lok3 (q65_6 F113 F200 F203 F242 (Ym FUEL)) env65 (fun _=>rfl) (fun _=>rfl) (fun _=>rfl) [] trivial
theorem ok65:OKP (en65 F65):=ST.ok3 (q65 F113 F200 F203 F242 (Ym FUEL)) env65 Tryz.func65 (fun _=>rfl) (fun _=>rfl) (fun _=>rfl) [6] ⟨⟨_,rfl,lok65_6⟩,trivial⟩
abbrev zr6:=(R:Type)→Int→(Int→Bool→Option R)→Option R
def en114 (F:zr6):Ent:=eV 114 [(.int .i64)] [(.int .i64),.bool] F
abbrev zve (Z:Type):=Int→(List Tq9)→Int→Int→Z
abbrev E114_6 (R:Type):=(Int→Option R)→Option R
abbrev N2:=(R:Type)→zve (E114_6 R)
def zcf (L:N2):LEnt:=lM 6 [.val 6 (.int .i64),.val 16 (.sl Kq9),.val 17 (.int .i64),.val 18 (.int .i64)] 0 [(.exit 0,[.val 6 (.int .i64)])] L
def e114 (F113:Km) (L6:N2):=sE 0 28 [] [zop F113] [zcf L6]
def zl9 (R:Type):zve (zve (Option R)→E114_6 R):=fun x1 x2 x3 x4 kc k0=>
let v5:=decide (x4<x3);(match v5 with
|true=>(match bnd x4 x2.length with
|true=>let v6:=x2.getD x4.toNat (0,FnV.nil,FnV.nil,());let v7:=IntKind.i64.wrap (x1+v6.1);let v8:=IntKind.i64.wrap (x4+1);kc v7 x2 x3 v8
|false=>none)
|false=>k0 x1)
theorem q114_6 (F113:Km) (L6:N2):LEQ (zcf L6) (e114 F113 L6) Tryz.f114 zl9:=fun _ _ _ _=>by kernel_rfl
def Ry:Nat→N2
 | 0=>fun _ _ _ _ _ _=>none
 | n+1=>fun R x1 x2 x3 x4 k0=>zl9 R x1 x2 x3 x4 (fun x1 x2 x3 x4=>Ry n R x1 x2 x3 x4 k0) k0
def p114 (F113:Km) (L6:N2):zr6:=fun R a0 k=>
F113 R a0 fun y1 y2=>
(match (!y2) with
|true=>k (0:Int) false
|false=>let v3:=(y1.length:Int);L6 R (1:Int) y1 v3 (0:Int) (fun x4=>
k x4 true))
theorem q114 (F113:Km) (L6:N2):EQ (en114 (p114 F113 L6)) (e114 F113 L6) Tryz.f114 [(.tmp 2,3,false),(.tmp 3,4,false)]:=fun _ _ _=>by kernel_rfl
def F114:zr6:=p114 F113 (Ry FUEL)
theorem zyj:LKP (zcf (Ry FUEL)) 0 28 6 Tryz.f114:=ST.lok (q114_6 F113 (Ry FUEL)) (Aa zwo Ab) [] trivial
theorem ok114:OKP (en114 F114):=ST.ok1 (q114 F113 (Ry FUEL)) (Aa zwo Ab) Tryz.func114 [6] ⟨⟨_,rfl,zyj⟩,trivial⟩
abbrev FT67:=(R:Type)→LI→(Bool→Option R)→Option R
def en67 (F:FT67):Ent:=eV 67 [(.sl (.int .u8))] [.bool] F
def p67 (F114:zr6):FT67:=fun R a0 k=>
(match bnd 0 a0.length with
|true=>let v1:=a0.getD 0 0;let v2:=IntKind.i64.wrap v1;F114 R v2 fun y3 y4=>
(match (!y4) with
|true=>k true
|false=>let v5:=(a0.length:Int);let v6:=decide (y3≤v5);k v6)
|false=>none)
theorem q67 (F114:zr6):EQ (en67 (p67 F114)) (sE 0 21 [] [en114 F114] []) Tryz.f67 [(.tmp 2,4,false)]:=fun _ _ _=>by kernel_rfl
def F67:FT67:=p67 F114
theorem ok67:OKP (en67 F67):=ST.ok0 (q67 F114) (Aa ok114 Ab) Tryz.func67
abbrev FT66:=(R:Type)→LI→(Tq13→LI→Option R)→Option R
def en66 (F:FT66):Ent:=eV 66 [(.sl (.int .u8))] [Kq13,(.sl (.int .u8))] F
abbrev zto (Z:Type):=LI→(List Tq9)→Int→Int→Tq13→Tq13→Z
abbrev E66_10 (R:Type):=(LI→Tq13→Tq13→Option R)→Option R
abbrev Mt:=(R:Type)→zto (E66_10 R)
def zap (L:Mt):LEnt:=lM 10 [.val 0 (.sl (.int .u8)),.fix 2 (.ptr 0 [] Kq13),.fix 7 (.ptr 1 [] Kq13),.val 36 (.sl Kq9),.val 37 (.int .i64),.val 38 (.int .i64),.var 0 Kq13 false,.var 1 Kq13 false] 2 [(.exit 1,[.val 0 (.sl (.int .u8)),.fix 2 (.ptr 0 [] Kq13),.fix 7 (.ptr 1 [] Kq13),.var 0 Kq13 false,.var 1 Kq13 false])] L
def e201i0 (R:Type):Env R:=⟨TT,EQT,0,10,Bu [],Bc [] R,fun _ _ _=>none,[],Be [],[]⟩
theorem zy9 (R:Type):A4 Tryz.prog (e201i0 R):=⟨tabOK,eqOK,Aq Ab,B0,Al⟩
def e204i0 (F205:Ze) (R:Type):Env R:=⟨TT,EQT,0,11,Bu [],Bc [zzo F205] R,fun _ _ _=>none,[],Be [],[]⟩
theorem zy7 (R:Type):A4 Tryz.prog (e204i0 F205 R):=⟨tabOK,eqOK,Aq (Aa ok205 Ab),B0,Al⟩
def e243i0 (F244:Pc) (R:Type):Env R:=⟨TT,EQT,0,14,Bu [(0,2)],Bc [zoc F244] R,fun _ _ _=>none,[],Be [(207,xinl (zow R) (Ah Tryz.f207) [.tmp 2] 1),(208,xinl (zov R) (Ah Tryz.f208) [.tmp 2] 1)],[(FnV.fn 207),(FnV.fn 208)]⟩
theorem zy4 (R:Type):A4 Tryz.prog (e243i0 F244 R):=⟨tabOK,eqOK,Aq (Aa zwb Ab),B0,(A9 (Bb (zg6 R) mixed Tryz.func207 (body:=Ah Tryz.f207) (by kernel_rfl) (by kernel_rfl) (by kernel_rfl) (res:=[.tmp 2]) (by kernel_rfl) (n:=1) (Nat.le_of_ble_eq_true rfl) (by kernel_rfl)) (A9 (Bb (zg5 R) mixed Tryz.func208 (body:=Ah Tryz.f208) (by kernel_rfl) (by kernel_rfl) (by kernel_rfl) (res:=[.tmp 2]) (by kernel_rfl) (n:=1) (Nat.le_of_ble_eq_true rfl) (by kernel_rfl)) Al))⟩
def e66 (F67:FT67) (F113:Km) (F205:Ze) (F244:Pc) (L10:Mt) (R:Type):Env R:=⟨TT,EQT,0,56,Bu [(12,6)],Bc [en67 F67,zop F113,zzo F205,zoc F244] R,Bm [zap L10] R,[],Be [(201,xinl (e201i0 R) (Ah Tryz.f201) [] 2),(204,xinl (e204i0 F205 R) (Ah Tryz.f204) [] 2),(243,xinl (e243i0 F244 R) (Ah Tryz.f243) [] 3)],[(FnV.fn 201),(FnV.fn 204),(FnV.clo 243 (FnV.fn 207)),(FnV.clo 243 (FnV.fn 208))]⟩
def zgd (F205:Ze) (F244:Pc) (R:Type):zto (zto (Option R)→E66_10 R):=fun x1 x2 x3 x4 x5 x6 kc k0=>
let v7:=decide (x4<x3);(match v7 with
|true=>(match bnd x4 x2.length with
|true=>let v8:=x2.getD x4.toNat (0,FnV.nil,FnV.nil,());(match (decide (0≤(0:Int)∧(0:Int)≤v8.1∧v8.1≤v8.1∧v8.1≤(x1.length:Int))) with
|true=>let v9:=List.take (Int.toNat (v8.1 - 0)) (List.drop 0 x1);(match (FnV.same v8.2.2.1 (FnV.fn 201)) with
|true=>(match (decide ((32:Int)≤(v9.length:Int))) with
|true=>let v10:=List.take 32 v9;(match (decide (0≤v8.1∧v8.1≤(x1.length:Int)∧(x1.length:Int)≤(x1.length:Int)∧(x1.length:Int)≤(x1.length:Int))) with
|true=>let v11:=List.take (Int.toNat ((x1.length:Int) - v8.1)) (List.drop v8.1.toNat x1);let v12:=IntKind.i64.wrap (x4+1);kc v11 x2 x3 v12 x5 (x6.1,x6.2.1,x6.2.2.1,v10,x6.2.2.2.2)
|false=>none)
|false=>none)
|false=>(match (FnV.same v8.2.2.1 (FnV.fn 204)) with
|true=>(match (decide ((8:Int)≤(v9.length:Int))) with
|true=>let v13:=List.take 8 v9;F205 R v13 fun y14=>
(match (decide (0≤v8.1∧v8.1≤(x1.length:Int)∧(x1.length:Int)≤(x1.length:Int)∧(x1.length:Int)≤(x1.length:Int))) with
|true=>let v15:=List.take (Int.toNat ((x1.length:Int) - v8.1)) (List.drop v8.1.toNat x1);let v16:=IntKind.i64.wrap (x4+1);kc v15 x2 x3 v16 x5 (x6.1,x6.2.1,y14,x6.2.2.2.1,x6.2.2.2.2)
|false=>none)
|false=>none)
|false=>(match (FnV.same v8.2.2.1 (FnV.clo 243 (FnV.fn 207))) with
|true=>(match (decide ((4:Int)≤(v9.length:Int))) with
|true=>let v17:=List.take 4 v9;F244 R v17 fun y18=>
let v19:=IntKind.i64.wrap y18;(match (decide (0≤v8.1∧v8.1≤(x1.length:Int)∧(x1.length:Int)≤(x1.length:Int)∧(x1.length:Int)≤(x1.length:Int))) with
|true=>let v20:=List.take (Int.toNat ((x1.length:Int) - v8.1)) (List.drop v8.1.toNat x1);let v21:=IntKind.i64.wrap (x4+1);kc v20 x2 x3 v21 x5 (x6.1,v19,x6.2.2.1,x6.2.2.2.1,x6.2.2.2.2)
|false=>none)
|false=>none)
|false=>(match (FnV.same v8.2.2.1 (FnV.clo 243 (FnV.fn 208))) with
|true=>(match (decide ((4:Int)≤(v9.length:Int))) with
|true=>let v22:=List.take 4 v9;F244 R v22 fun y23=>
let v24:=IntKind.i64.wrap y23;(match (decide (0≤v8.1∧v8.1≤(x1.length:Int)∧(x1.length:Int)≤(x1.length:Int)∧(x1.length:Int)≤(x1.length:Int))) with
|true=>let v25:=List.take (Int.toNat ((x1.length:Int) - v8.1)) (List.drop v8.1.toNat x1);let v26:=IntKind.i64.wrap (x4+1);kc v25 x2 x3 v26 x5 (x6.1,x6.2.1,x6.2.2.1,x6.2.2.2.1,v24,x6.2.2.2.2.2)
|false=>none)
|false=>none)
|false=>none))))
|false=>none)
|false=>none)
|false=>k0 x1 x5 x6)
theorem q66_10 (F67:FT67) (F113:Km) (F205:Ze) (F244:Pc) (L10:Mt):LEQ (zap L10) (e66 F67 F113 F205 F244 L10) Tryz.f66 (zgd F205 F244):=fun _ _ _ _=>by kernel_rfl
def La:Nat→Mt
 | 0=>fun _ _ _ _ _ _ _ _=>none
 | n+1=>fun R x1 x2 x3 x4 x5 x6 k0=>zgd F205 F244 R x1 x2 x3 x4 x5 x6 (fun x1 x2 x3 x4 x5 x6=>La n R x1 x2 x3 x4 x5 x6 k0) k0
def p66 (F67:FT67) (F113:Km) (L10:Mt):FT66:=fun R a0 k=>
(match bnd 0 a0.length with
|true=>let v1:=a0.getD 0 0;let v2:=IntKind.i64.wrap v1;F113 R v2 fun y3 y4=>
(match (!y4) with
|true=>(match (decide (0≤(1:Int)∧(1:Int)≤(a0.length:Int)∧(a0.length:Int)≤(a0.length:Int)∧(a0.length:Int)≤(a0.length:Int))) with
|true=>let v5:=List.take (Int.toNat ((a0.length:Int) - (1:Int))) (List.drop 1 a0);k ((0:Int),(0:Int),(0:Int),(List.replicate 32 (0:Int)),v2,()) v5
|false=>none)
|false=>F67 R a0 fun y6=>
(match (!y6) with
|true=>k ((0:Int),(0:Int),(0:Int),(List.replicate 32 (0:Int)),v2,()) ([]:LI)
|false=>(match (decide (0≤(1:Int)∧(1:Int)≤(a0.length:Int)∧(a0.length:Int)≤(a0.length:Int)∧(a0.length:Int)≤(a0.length:Int))) with
|true=>let v7:=List.take (Int.toNat ((a0.length:Int) - (1:Int))) (List.drop 1 a0);let v8:=(y3.length:Int);L10 R v7 y3 v8 (0:Int) ((0:Int),(0:Int),(0:Int),(List.replicate 32 (0:Int)),(0:Int),()) (v2,(0:Int),(0:Int),(List.replicate 32 (0:Int)),(0:Int),()) (fun x9 x10 x11=>
k x11 x9)
|false=>none)))
|false=>none)
theorem q66 (F67:FT67) (F113:Km) (F205:Ze) (F244:Pc) (L10:Mt):EQ (en66 (p66 F67 F113 L10)) (e66 F67 F113 F205 F244 L10) Tryz.f66 [(.cell 2 48,48,false),(.tmp 3,93,false)]:=fun _ _ _=>by kernel_rfl
def F66:FT66:=p66 F67 F113 (La FUEL)
theorem env66 (R:Type):A4 Tryz.prog (e66 F67 F113 F205 F244 (La FUEL) R):=⟨tabOK,eqOK,Aq (Aa ok67 (Aa zwo (Aa ok205 (Aa zwb Ab)))),B0,(A9 (Bb (zy9 R) mixed Tryz.func201 (body:=Ah Tryz.f201) (by kernel_rfl) (by kernel_rfl) (by kernel_rfl) (res:=[]) (by kernel_rfl) (n:=2) (Nat.le_of_ble_eq_true rfl) (by kernel_rfl)) (A9 (Bb (zy7 R) mixed Tryz.func204 (body:=Ah Tryz.f204) (by kernel_rfl) (by kernel_rfl) (by kernel_rfl) (res:=[]) (by kernel_rfl) (n:=2) (Nat.le_of_ble_eq_true rfl) (by kernel_rfl)) (A9 (Bb (zy4 R) mixed Tryz.func243 (body:=Ah Tryz.f243) (by kernel_rfl) (by kernel_rfl) (by kernel_rfl) (res:=[]) (by kernel_rfl) (n:=3) (Nat.le_of_ble_eq_true rfl) (by kernel_rfl)) Al)))⟩
theorem zws:LKP (zap (La FUEL)) 0 56 10 Tryz.f66:=ST.lok3 (q66_10 F67 F113 F205 F244 (La FUEL)) env66 (fun _=>rfl) (fun _=>rfl) (fun _=>rfl) [] trivial
theorem ok66:OKP (en66 F66):=ST.ok3 (q66 F67 F113 F205 F244 (La FUEL)) env66 Tryz.func66 (fun _=>rfl) (fun _=>rfl) (fun _=>rfl) [10] ⟨⟨_,rfl,zws⟩,trivial⟩
abbrev FT32:=(R:Type)→Tq13→(Bool→Option R)→Option R
def en32 (F:FT32):Ent:=eV 32 [Kq13] [.bool] F
def p32 (F65:FT65) (F66:FT66) (F67:FT67):FT32:=fun R a0 k=>
let v1:=decide (a0.2.1<0);(match v1 with
|true=>k false
|false=>let v2:=decide (a0.2.1>4294967295);(match v2 with
|true=>k false
|false=>let v3:=decide (a0.2.2.2.2.1<0);(match v3 with
|true=>k false
|false=>let v4:=decide (a0.2.2.2.2.1>4294967295);(match v4 with
|true=>k false
|false=>F65 R a0 fun y5=>
F66 R y5 fun y6 y7=>
let v8:=Kd.eqv Kq13 y6 a0;(match v8 with
|true=>let v9:=(y7.length:Int);let v10:=v9==0;(match v10 with
|true=>F67 R y5 fun y11=>
k y11
|false=>k false)
|false=>k false)))))
theorem q32 (F65:FT65) (F66:FT66) (F67:FT67):EQ (en32 (p32 F65 F66 F67)) (sE 0 43 [] [en65 F65,en66 F66,en67 F67] []) Tryz.f32 [(.tmp 2,4,false)]:=fun _ _ _=>by kernel_rfl
def F32:FT32:=p32 F65 F66 F67
theorem ok32:OKP (en32 F32):=ST.ok0 (q32 F65 F66 F67) (Aa ok65 (Aa ok66 (Aa ok67 Ab))) Tryz.func32
abbrev FT13:=(R:Type)→Tq29→Tq13→(Tq29→Tq17→Option R)→Option R
def en13 (F:FT13):Ent:=eV 13 [Kq29,Kq13] [Kq29,Kq17] F
def e31i0 (R:Type):Env R:=⟨TT,EQT,0,3,Bu [],Bc [] R,fun _ _ _=>none,[],Be [],[]⟩
theorem env31i0 (R:Type):A4 Tryz.prog (e31i0 R):=⟨tabOK,eqOK,Aq Ab,B0,Al⟩
def e13 (F32:FT32) (F51:FT51) (F52:FT52) (F53:FT53) (F54:FT54) (F57:FT57) (F59:FT59) (F60:FT60) (F61:FT61) (F62:FT62) (F63:FT63) (F64:FT64) (R:Type):Env R:=⟨TT,EQT,0,46,Bu [(1,0)],Bc [en32 F32,en51 F51,en52 F52,en53 F53,en54 F54,en57 F57,en59 F59,en60 F60,en61 F61,en62 F62,en63 F63,en64 F64] R,Bm [] R,[],Be [(31,xinl (e31i0 R) (Ah Tryz.f31) [.tmp 0] 0)],[(FnV.fn 51),(FnV.fn 52),(FnV.fn 53),(FnV.fn 54),(FnV.fn 57),(FnV.fn 59),(FnV.fn 60),(FnV.fn 61),(FnV.fn 62),(FnV.fn 63),(FnV.fn 64)]⟩
def p13 (F32:FT32) (F51:FT51) (F52:FT52) (F53:FT53) (F54:FT54) (F57:FT57) (F59:FT59) (F60:FT60) (F61:FT61) (F62:FT62) (F63:FT63) (F64:FT64):FT13:=fun R a0 a1 k=>
(match (Option.isNone (B6 (Kd.eqv (.int .i64)) ([]:List (Int×FnV)) (1:Int))) with
|true=>let v1:=([]:List (Int×FnV))++[((1:Int),(FnV.fn 51))];(match (Option.isNone (B6 (Kd.eqv (.int .i64)) v1 (2:Int))) with
|true=>let v2:=v1++[((2:Int),(FnV.fn 52))];(match (Option.isNone (B6 (Kd.eqv (.int .i64)) v2 (3:Int))) with
|true=>let v3:=v2++[((3:Int),(FnV.fn 53))];(match (Option.isNone (B6 (Kd.eqv (.int .i64)) v3 (4:Int))) with
|true=>let v4:=v3++[((4:Int),(FnV.fn 54))];(match (Option.isNone (B6 (Kd.eqv (.int .i64)) v4 (5:Int))) with
|true=>let v5:=v4++[((5:Int),(FnV.fn 57))];(match (Option.isNone (B6 (Kd.eqv (.int .i64)) v5 (6:Int))) with
|true=>let v6:=v5++[((6:Int),(FnV.fn 59))];(match (Option.isNone (B6 (Kd.eqv (.int .i64)) v6 (7:Int))) with
|true=>let v7:=v6++[((7:Int),(FnV.fn 60))];(match (Option.isNone (B6 (Kd.eqv (.int .i64)) v7 (8:Int))) with
|true=>let v8:=v7++[((8:Int),(FnV.fn 61))];(match (Option.isNone (B6 (Kd.eqv (.int .i64)) v8 (9:Int))) with
|true=>let v9:=v8++[((9:Int),(FnV.fn 62))];(match (Option.isNone (B6 (Kd.eqv (.int .i64)) v9 (10:Int))) with
|true=>let v10:=v9++[((10:Int),(FnV.fn 63))];(match (Option.isNone (B6 (Kd.eqv (.int .i64)) v10 (11:Int))) with
|true=>let v11:=v10++[((11:Int),(FnV.fn 64))];let v12:=Option.getD (B6 (Kd.eqv (.int .i64)) v11 a1.1) FnV.nil;let v13:=Option.isSome (B6 (Kd.eqv (.int .i64)) v11 a1.1);(match (!v13) with
|true=>k a0 ((2:Int),(0:Int),([]:LI),(List.replicate 32 (0:Int)),())
|false=>F32 R a1 fun y14=>
(match (!y14) with
|true=>k a0 ((2:Int),(0:Int),([]:LI),(List.replicate 32 (0:Int)),())
|false=>(match (FnV.same v12 (FnV.fn 51)) with
|true=>F51 R (a0,((0:Int),(0:Int),([]:LI),(List.replicate 32 (0:Int)),()),()) a1 fun y15 p16=>
let v17:=y15 !=0;(match v17 with
|true=>k a0 (y15,(0:Int),([]:LI),(List.replicate 32 (0:Int)),())
|false=>k p16.1 p16.2.1)
|false=>(match (FnV.same v12 (FnV.fn 52)) with
|true=>F52 R (a0,((0:Int),(0:Int),([]:LI),(List.replicate 32 (0:Int)),()),()) a1 fun y18 p19=>
let v20:=y18 !=0;(match v20 with
|true=>k a0 (y18,(0:Int),([]:LI),(List.replicate 32 (0:Int)),())
|false=>k p19.1 p19.2.1)
|false=>(match (FnV.same v12 (FnV.fn 53)) with
|true=>F53 R (a0,((0:Int),(0:Int),([]:LI),(List.replicate 32 (0:Int)),()),()) a1 fun y21 p22=>
let v23:=y21 !=0;(match v23 with
|true=>k a0 (y21,(0:Int),([]:LI),(List.replicate 32 (0:Int)),())
|false=>k p22.1 p22.2.1)
|false=>(match (FnV.same v12 (FnV.fn 54)) with
|true=>F54 R (a0,((0:Int),(0:Int),([]:LI),(List.replicate 32 (0:Int)),()),()) a1 fun y24 p25=>
let v26:=y24 !=0;(match v26 with
|true=>k a0 (y24,(0:Int),([]:LI),(List.replicate 32 (0:Int)),())
|false=>k p25.1 p25.2.1)
|false=>(match (FnV.same v12 (FnV.fn 57)) with
|true=>F57 R (a0,((0:Int),(0:Int),([]:LI),(List.replicate 32 (0:Int)),()),()) a1 fun y27 p28=>
let v29:=y27 !=0;(match v29 with
|true=>k a0 (y27,(0:Int),([]:LI),(List.replicate 32 (0:Int)),())
|false=>k p28.1 p28.2.1)
|false=>(match (FnV.same v12 (FnV.fn 59)) with
|true=>F59 R (a0,((0:Int),(0:Int),([]:LI),(List.replicate 32 (0:Int)),()),()) a1 fun y30 p31=>
let v32:=y30 !=0;(match v32 with
|true=>k a0 (y30,(0:Int),([]:LI),(List.replicate 32 (0:Int)),())
|false=>k p31.1 p31.2.1)
|false=>(match (FnV.same v12 (FnV.fn 60)) with
|true=>F60 R (a0,((0:Int),(0:Int),([]:LI),(List.replicate 32 (0:Int)),()),()) a1 fun y33 p34=>
let v35:=y33 !=0;(match v35 with
|true=>k a0 (y33,(0:Int),([]:LI),(List.replicate 32 (0:Int)),())
|false=>k p34.1 p34.2.1)
|false=>(match (FnV.same v12 (FnV.fn 61)) with
|true=>F61 R (a0,((0:Int),(0:Int),([]:LI),(List.replicate 32 (0:Int)),()),()) a1 fun y36 p37=>
let v38:=y36 !=0;(match v38 with
|true=>k a0 (y36,(0:Int),([]:LI),(List.replicate 32 (0:Int)),())
|false=>k p37.1 p37.2.1)
|false=>(match (FnV.same v12 (FnV.fn 62)) with
|true=>F62 R (a0,((0:Int),(0:Int),([]:LI),(List.replicate 32 (0:Int)),()),()) a1 fun y39 p40=>
let v41:=y39 !=0;(match v41 with
|true=>k a0 (y39,(0:Int),([]:LI),(List.replicate 32 (0:Int)),())
|false=>k p40.1 p40.2.1)
|false=>(match (FnV.same v12 (FnV.fn 63)) with
|true=>F63 R (a0,((0:Int),(0:Int),([]:LI),(List.replicate 32 (0:Int)),()),()) a1 fun y42 p43=>
let v44:=y42 !=0;(match v44 with
|true=>k a0 (y42,(0:Int),([]:LI),(List.replicate 32 (0:Int)),())
|false=>k p43.1 p43.2.1)
|false=>(match (FnV.same v12 (FnV.fn 64)) with
|true=>F64 R (a0,((0:Int),(0:Int),([]:LI),(List.replicate 32 (0:Int)),()),()) a1 fun y45 p46=>
let v47:=y45 !=0;(match v47 with
|true=>k a0 (y45,(0:Int),([]:LI),(List.replicate 32 (0:Int)),())
|false=>k p46.1 p46.2.1)
|false=>none)))))))))))))
|false=>none)
|false=>none)
|false=>none)
|false=>none)
|false=>none)
|false=>none)
|false=>none)
|false=>none)
|false=>none)
|false=>none)
|false=>none)
theorem q13 (F32:FT32) (F51:FT51) (F52:FT52) (F53:FT53) (F54:FT54) (F57:FT57) (F59:FT59) (F60:FT60) (F61:FT61) (F62:FT62) (F63:FT63) (F64:FT64):EQ (en13 (p13 F32 F51 F52 F53 F54 F57 F59 F60 F61 F62 F63 F64)) (e13 F32 F51 F52 F53 F54 F57 F59 F60 F61 F62 F63 F64) Tryz.f13 [(.cell 4 34,34,false),(.cell 5 44,44,false)]:=fun _ _ _=>by kernel_rfl
def F13:FT13:=p13 F32 F51 F52 F53 F54 F57 F59 F60 F61 F62 F63 F64
theorem env13 (R:Type):A4 Tryz.prog (e13 F32 F51 F52 F53 F54 F57 F59 F60 F61 F62 F63 F64 R):=⟨tabOK,eqOK,Aq (Aa ok32 (Aa ok51 (Aa ok52 (Aa ok53 (Aa ok54 (Aa ok57 (Aa ok59 (Aa ok60 (Aa ok61 (Aa ok62 (Aa ok63 (Aa ok64 Ab)))))))))))),B0,(A9 (Bb (env31i0 R) mixed Tryz.func31 (body:=Ah Tryz.f31) (by kernel_rfl) (by kernel_rfl) (by kernel_rfl) (res:=[.tmp 0]) (by kernel_rfl) (n:=0) (Nat.le_of_ble_eq_true rfl) (by kernel_rfl)) Al)⟩
theorem ok13:OKP (en13 F13):=ST.ok3 (q13 F32 F51 F52 F53 F54 F57 F59 F60 F61 F62 F63 F64) env13 Tryz.func13 (fun _=>rfl) (fun _=>rfl) (fun _=>rfl) [] trivial
abbrev FT17:=(R:Type)→Tq29→(List Tq13)→(Tq29→(List Tq17)→Option R)→Option R
def en17 (F:FT17):Ent:=eV 17 [Kq29,(.sl Kq13)] [Kq29,(.sl Kq17)] F
abbrev D17_3 (Z:Type):=(List Tq13)→Int→Int→Tq29→Tq29→(List Tq17)→Z
abbrev E17_3 (R:Type):=(Tq29→Tq29→(List Tq17)→Option R)→Option R
abbrev Tr:=(R:Type)→D17_3 (E17_3 R)
def zni (L:Tr):LEnt:=lM 3 [.fix 2 (.ptr 0 [] Kq29),.fix 4 (.ptr 1 [] Kq29),.fix 6 (.own 2 0),.val 11 (.sl Kq13),.val 12 (.int .i64),.val 13 (.int .i64),.var 0 Kq29 false,.var 1 Kq29 false,.row 2 Kq17 false] 3 [(.exit 0,[.fix 2 (.ptr 0 [] Kq29),.fix 4 (.ptr 1 [] Kq29),.fix 6 (.own 2 0),.var 0 Kq29 false,.var 1 Kq29 false,.row 2 Kq17 false])] L
def e17 (F13:FT13) (L3:Tr):=sE 0 31 [(1,0)] [en13 F13] [zni L3]
def p17_3 (F13:FT13) (R:Type):D17_3 (D17_3 (Option R)→E17_3 R):=fun x1 x2 x3 x4 x5 x6 kc k0=>
let v7:=decide (x3<x2);(match v7 with
|true=>(match bnd x3 x1.length with
|true=>let v8:=x1.getD x3.toNat (0,0,0,(List.replicate 32 0),0,());F13 R x4 v8 fun y9 y10=>
let v11:=([y10]:(List Tq17));(match (decide (x6.length+v11.length≤1954687338268)) with
|true=>let v12:=x6++v11;let v13:=IntKind.i64.wrap (x3+1);kc x1 x2 v13 y9 x5 v12
|false=>none)
|false=>none)
|false=>k0 x4 x5 x6)
theorem q17_3 (F13:FT13) (L3:Tr):LEQ (zni L3) (e17 F13 L3) Tryz.f17 (p17_3 F13):=fun _ _ _ _=>by kernel_rfl
def zdq:Nat→Tr
 | 0=>fun _ _ _ _ _ _ _ _=>none
 | n+1=>fun R x1 x2 x3 x4 x5 x6 k0=>p17_3 F13 R x1 x2 x3 x4 x5 x6 (fun x1 x2 x3 x4 x5 x6=>zdq n R x1 x2 x3 x4 x5 x6 k0) k0
def p17 (L3:Tr):FT17:=fun R a0 a1 k=>
let v1:=(a1.length:Int);L3 R a1 v1 (0:Int) a0 (((0:Int),(0:Int),(0:Int),(0:Int),(0:Int),()),(0:Int),([]:(List Tq5)),((0:Int),(List.replicate 32 (0:Int)),(List.replicate 32 (0:Int)),([]:(List Tq3)),()),([]:LI),([]:LI),()) ([]:(List Tq17)) (fun x2 x3 x4=>
k x2 x4)
theorem q17 (F13:FT13) (L3:Tr):EQ (en17 (p17 L3)) (e17 F13 L3) Tryz.f17 [(.cell 4 34,34,false),(.tmp 5,51,false)]:=fun _ _ _=>by kernel_rfl
def F17:FT17:=p17 (zdq FUEL)
theorem lok17_3:LKP (zni (zdq FUEL)) 0 31 3 Tryz.f17:=ST.lok (q17_3 F13 (zdq FUEL)) (Aa ok13 Ab) [] trivial
theorem ok17:OKP (en17 F17):=ST.ok1 (q17 F13 (zdq FUEL)) (Aa ok13 Ab) Tryz.func17 [3] ⟨⟨_,rfl,lok17_3⟩,trivial⟩
abbrev FT24:=(R:Type)→LI→Int→LI→(LI→Option R)→Option R
def en24 (F:FT24):Ent:=eV 24 [(.arr 32 (.int .u8)),(.int .u64),(.arr 32 (.int .u8))] [(.arr 32 (.int .u8))] F
abbrev D24_4 (Z:Type):=Int→LI→LI→LI→LI→Z
abbrev E24_4 (R:Type):=(LI→LI→LI→Option R)→Option R
abbrev Tn:=(R:Type)→D24_4 (E24_4 R)
def zne (L:Tn):LEnt:=lM 4 [.fix 5 (.ptr 1 [] (.arr 32 (.int .u8))),.fix 6 (.ptr 2 [] (.arr 32 (.int .u8))),.fix 7 (.own 3 0),.fix 8 (.ptr 4 [] (.arr 8 (.int .u8))),.val 9 (.int .i64),.var 1 (.arr 32 (.int .u8)) false,.var 2 (.arr 32 (.int .u8)) false,.row 3 (.int .u8) false,.var 4 (.arr 8 (.int .u8)) false] 5 [(.exit 0,[.fix 5 (.ptr 1 [] (.arr 32 (.int .u8))),.fix 6 (.ptr 2 [] (.arr 32 (.int .u8))),.fix 7 (.own 3 0),.var 1 (.arr 32 (.int .u8)) false,.var 2 (.arr 32 (.int .u8)) false,.row 3 (.int .u8) false])] L
def e24 (F45:FT45) (F46:FT46) (F47:FT47) (L4:Tn):=sE 0 29 [] [en45 F45,en46 F46,en47 F47] [zne L4]
def p24_4 (R:Type):D24_4 (D24_4 (Option R)→E24_4 R):=fun x1 x2 x3 x4 x5 kc k0=>
let v6:=decide (x1<8);(match v6 with
|true=>(match (bnd x1 (8:Int)) with
|true=>let v7:=x5.getD x1.toNat 0;let v8:=([v7]:LI);(match (decide (x4.length+v8.length≤140737488355328)) with
|true=>let v9:=x4++v8;let v10:=IntKind.i64.wrap (x1+1);kc v10 x2 x3 v9 x5
|false=>none)
|false=>none)
|false=>k0 x2 x3 x4)
theorem q24_4 (F45:FT45) (F46:FT46) (F47:FT47) (L4:Tn):LEQ (zne L4) (e24 F45 F46 F47 L4) Tryz.f24 p24_4:=fun _ _ _ _=>by kernel_rfl
def zdk:Nat→Tn
 | 0=>fun _ _ _ _ _ _ _=>none
 | n+1=>fun R x1 x2 x3 x4 x5 k0=>p24_4 R x1 x2 x3 x4 x5 (fun x1 x2 x3 x4 x5=>zdk n R x1 x2 x3 x4 x5 k0) k0
def p24 (F45:FT45) (F46:FT46) (F47:FT47) (L4:Tn):FT24:=fun R a0 a1 a2 k=>
F46 R a0 fun y1=>
F47 R a1 fun y2=>
L4 R (0:Int) a2 (List.replicate 32 (0:Int)) y1 y2 (fun x3 x4 x5=>
F46 R x3 fun y6=>
(match (decide (x5.length+y6.length≤140737488355328)) with
|true=>let v7:=x5++y6;F45 R v7 fun y8=>
k y8
|false=>none))
theorem q24 (F45:FT45) (F46:FT46) (F47:FT47) (L4:Tn):EQ (en24 (p24 F45 F46 F47 L4)) (e24 F45 F46 F47 L4) Tryz.f24 [(.cell 6 25,25,false)]:=fun _ _ _=>by kernel_rfl
def F24:FT24:=p24 F45 F46 F47 (zdk FUEL)
theorem lok24_4:LKP (zne (zdk FUEL)) 0 29 4 Tryz.f24:=ST.lok (q24_4 F45 F46 F47 (zdk FUEL)) (Aa ok45 (Aa ok46 (Aa ok47 Ab))) [] trivial
theorem ok24:OKP (en24 F24):=ST.ok1 (q24 F45 F46 F47 (zdk FUEL)) (Aa ok45 (Aa ok46 (Aa ok47 Ab))) Tryz.func24 [4] ⟨⟨_,rfl,lok24_4⟩,trivial⟩
abbrev FT20:=(R:Type)→LI→LI→(Bool→Option R)→Option R
def en20 (F:FT20):Ent:=eV 20 [(.sl (.int .i64)),(.sl (.int .i64))] [.bool] F
abbrev D20_4 (Z:Type):=LI→LI→Int→Z
abbrev E20_4 (R:Type):=(Bool→Option R)→(Option R)→Option R
abbrev Tq:=(R:Type)→D20_4 (E20_4 R)
def znh (L:Tq):LEnt:=lM 4 [.val 0 (.sl (.int .i64)),.val 1 (.sl (.int .i64)),.val 5 (.int .i64)] 0 [(.ret,[.val 4 .bool]),(.exit 0,[])] L
def e20 (L4:Tq):=sE 0 26 [] [] [znh L4]
def p20_4 (R:Type):D20_4 (D20_4 (Option R)→E20_4 R):=fun x1 x2 x3 kc k0 k1=>
let v4:=(x1.length:Int);let v5:=decide (x3<v4);(match v5 with
|true=>(match bnd x3 x1.length with
|true=>let v6:=x1.getD x3.toNat 0;(match bnd x3 x2.length with
|true=>let v7:=x2.getD x3.toNat 0;let v8:=v6 !=v7;(match v8 with
|true=>k0 false
|false=>let v9:=IntKind.i64.wrap (x3+1);kc x1 x2 v9)
|false=>none)
|false=>none)
|false=>k1)
theorem q20_4 (L4:Tq):LEQ (znh L4) (e20 L4) Tryz.f20 p20_4:=fun _ _ _ _=>by kernel_rfl
def zdo:Nat→Tq
 | 0=>fun _ _ _ _ _ _=>none
 | n+1=>fun R x1 x2 x3 k0 k1=>p20_4 R x1 x2 x3 (fun x1 x2 x3=>zdo n R x1 x2 x3 k0 k1) k0 k1
def p20 (L4:Tq):FT20:=fun R a0 a1 k=>
let v1:=(a0.length:Int);let v2:=(a1.length:Int);let v3:=v1 !=v2;(match v3 with
|true=>k false
|false=>L4 R a0 a1 (0:Int) (fun x4=>
k x4) (k true))
theorem q20 (L4:Tq):EQ (en20 (p20 L4)) (e20 L4) Tryz.f20 [(.tmp 4,4,false)]:=fun _ _ _=>by kernel_rfl
def F20:FT20:=p20 (zdo FUEL)
theorem lok20_4:LKP (znh (zdo FUEL)) 0 26 4 Tryz.f20:=ST.lok (q20_4 (zdo FUEL)) Ab [] trivial
theorem ok20:OKP (en20 F20):=ST.ok1 (q20 (zdo FUEL)) Ab Tryz.func20 [4] ⟨⟨_,rfl,lok20_4⟩,trivial⟩
abbrev FT84:=(R:Type)→(List Tq5)→(List Tq5)→(Bool→Option R)→Option R
def en84 (F:FT84):Ent:=eV 84 [(.sl Kq5),(.sl Kq5)] [.bool] F
abbrev D84_4 (Z:Type):=(List Tq5)→(List Tq5)→Int→Int→Z
abbrev E84_4 (R:Type):=(Bool→Option R)→(Option R)→Option R
abbrev Tb:=(R:Type)→D84_4 (E84_4 R)
def zm2 (L:Tb):LEnt:=lM 4 [.val 0 (.sl Kq5),.val 1 (.sl Kq5),.val 12 (.int .i64),.val 13 (.int .i64)] 0 [(.ret,[.val 4 .bool]),(.exit 0,[])] L
def e84 (L4:Tb):=sE 0 26 [] [] [zm2 L4]
def p84_4 (R:Type):D84_4 (D84_4 (Option R)→E84_4 R):=fun x1 x2 x3 x4 kc k0 k1=>
let v5:=decide (x4<x3);(match v5 with
|true=>(match bnd x4 x1.length with
|true=>let v6:=x1.getD x4.toNat ((List.replicate 32 0),0,0,());(match bnd x4 x2.length with
|true=>let v7:=x2.getD x4.toNat ((List.replicate 32 0),0,0,());let v8:= !(Kd.eqv Kq5 v6 v7);(match v8 with
|true=>k0 false
|false=>let v9:=IntKind.i64.wrap (x4+1);kc x1 x2 x3 v9)
|false=>none)
|false=>none)
|false=>k1)
theorem q84_4 (L4:Tb):LEQ (zm2 L4) (e84 L4) Tryz.f84 p84_4:=fun _ _ _ _=>by kernel_rfl
def zc8:Nat→Tb
 | 0=>fun _ _ _ _ _ _ _=>none
 | n+1=>fun R x1 x2 x3 x4 k0 k1=>p84_4 R x1 x2 x3 x4 (fun x1 x2 x3 x4=>zc8 n R x1 x2 x3 x4 k0 k1) k0 k1
def p84 (L4:Tb):FT84:=fun R a0 a1 k=>
let v1:=(a0.length:Int);let v2:=(a1.length:Int);let v3:=v1 !=v2;(match v3 with
|true=>k false
|false=>let v4:=(a0.length:Int);L4 R a0 a1 v4 (0:Int) (fun x5=>
k x5) (k true))
theorem q84 (L4:Tb):EQ (en84 (p84 L4)) (e84 L4) Tryz.f84 [(.tmp 4,4,false)]:=fun _ _ _=>by kernel_rfl
def F84:FT84:=p84 (zc8 FUEL)
theorem lok84_4:LKP (zm2 (zc8 FUEL)) 0 26 4 Tryz.f84:=ST.lok (q84_4 (zc8 FUEL)) Ab [] trivial
theorem ok84:OKP (en84 F84):=ST.ok1 (q84 (zc8 FUEL)) Ab Tryz.func84 [4] ⟨⟨_,rfl,lok84_4⟩,trivial⟩
abbrev FT39:=(R:Type)→(List Tq5)→(List Tq5)→(Bool→Option R)→Option R
def en39 (F:FT39):Ent:=eV 39 [(.sl Kq5),(.sl Kq5)] [.bool] F
def p39 (F84:FT84):FT39:=fun R a0 a1 k=>
F84 R a0 a1 fun y1=>
k y1
theorem q39 (F84:FT84):EQ (en39 (p39 F84)) (sE 0 8 [] [en84 F84] []) Tryz.f39 [(.tmp 4,4,false)]:=fun _ _ _=>by kernel_rfl
def F39:FT39:=p39 F84
theorem ok39:OKP (en39 F39):=ST.ok0 (q39 F84) (Aa ok84 Ab) Tryz.func39
abbrev zrz:=(R:Type)→(List Tq3)→(List Tq3)→(Bool→Option R)→Option R
def en127 (F:zrz):Ent:=eV 127 [(.sl Kq3),(.sl Kq3)] [.bool] F
abbrev zu5 (Z:Type):=(List Tq3)→(List Tq3)→Int→Int→Z
abbrev E127_4 (R:Type):=(Bool→Option R)→(Option R)→Option R
abbrev Nv:=(R:Type)→zu5 (E127_4 R)
def zb6 (L:Nv):LEnt:=lM 4 [.val 0 (.sl Kq3),.val 1 (.sl Kq3),.val 12 (.int .i64),.val 13 (.int .i64)] 0 [(.ret,[.val 4 .bool]),(.exit 0,[])] L
def e127 (L4:Nv):=sE 0 26 [] [] [zb6 L4]
def zl1 (R:Type):zu5 (zu5 (Option R)→E127_4 R):=fun x1 x2 x3 x4 kc k0 k1=>
let v5:=decide (x4<x3);(match v5 with
|true=>(match bnd x4 x1.length with
|true=>let v6:=x1.getD x4.toNat (0,(List.replicate 32 0),false,(List.replicate 32 0),());(match bnd x4 x2.length with
|true=>let v7:=x2.getD x4.toNat (0,(List.replicate 32 0),false,(List.replicate 32 0),());let v8:= !(Kd.eqv Kq3 v6 v7);(match v8 with
|true=>k0 false
|false=>let v9:=IntKind.i64.wrap (x4+1);kc x1 x2 x3 v9)
|false=>none)
|false=>none)
|false=>k1)
theorem q127_4 (L4:Nv):LEQ (zb6 L4) (e127 L4) Tryz.f127 zl1:=fun _ _ _ _=>by kernel_rfl
def Rs:Nat→Nv
 | 0=>fun _ _ _ _ _ _ _=>none
 | n+1=>fun R x1 x2 x3 x4 k0 k1=>zl1 R x1 x2 x3 x4 (fun x1 x2 x3 x4=>Rs n R x1 x2 x3 x4 k0 k1) k0 k1
def p127 (L4:Nv):zrz:=fun R a0 a1 k=>
let v1:=(a0.length:Int);let v2:=(a1.length:Int);let v3:=v1 !=v2;(match v3 with
|true=>k false
|false=>let v4:=(a0.length:Int);L4 R a0 a1 v4 (0:Int) (fun x5=>
k x5) (k true))
theorem q127 (L4:Nv):EQ (en127 (p127 L4)) (e127 L4) Tryz.f127 [(.tmp 4,4,false)]:=fun _ _ _=>by kernel_rfl
def F127:zrz:=p127 (Rs FUEL)
theorem zya:LKP (zb6 (Rs FUEL)) 0 26 4 Tryz.f127:=ST.lok (q127_4 (Rs FUEL)) Ab [] trivial
theorem ok127:OKP (en127 F127):=ST.ok1 (q127 (Rs FUEL)) Ab Tryz.func127 [4] ⟨⟨_,rfl,zya⟩,trivial⟩
abbrev FT85:=(R:Type)→(List Tq3)→(List Tq3)→(Bool→Option R)→Option R
def en85 (F:FT85):Ent:=eV 85 [(.sl Kq3),(.sl Kq3)] [.bool] F
def p85 (F127:zrz):FT85:=fun R a0 a1 k=>
F127 R a0 a1 fun y1=>
k y1
theorem q85 (F127:zrz):EQ (en85 (p85 F127)) (sE 0 8 [] [en127 F127] []) Tryz.f85 [(.tmp 4,4,false)]:=fun _ _ _=>by kernel_rfl
def F85:FT85:=p85 F127
theorem ok85:OKP (en85 F85):=ST.ok0 (q85 F127) (Aa ok127 Ab) Tryz.func85
abbrev FT40:=(R:Type)→Tq24→Tq24→(Bool→Option R)→Option R
def en40 (F:FT40):Ent:=eV 40 [Kq24,Kq24] [.bool] F
def p40 (F85:FT85):FT40:=fun R a0 a1 k=>
let v1:=a0.1==a1.1;(match v1 with
|true=>let v2:=Kd.eqv (.arr 32 (.int .u8)) a0.2.1 a1.2.1;(match v2 with
|true=>let v3:=Kd.eqv (.arr 32 (.int .u8)) a0.2.2.1 a1.2.2.1;(match v3 with
|true=>F85 R a0.2.2.2.1 a1.2.2.2.1 fun y4=>
k y4
|false=>k false)
|false=>k false)
|false=>k false)
theorem q40 (F85:FT85):EQ (en40 (p40 F85)) (sE 0 31 [] [en85 F85] []) Tryz.f40 [(.tmp 4,4,false)]:=fun _ _ _=>by kernel_rfl
def F40:FT40:=p40 F85
theorem ok40:OKP (en40 F40):=ST.ok0 (q40 F85) (Aa ok85 Ab) Tryz.func40
abbrev FT41:=(R:Type)→LI→LI→(Bool→Option R)→Option R
def en41 (F:FT41):Ent:=eV 41 [(.sl (.int .i64)),(.sl (.int .i64))] [.bool] F
abbrev D41_4 (Z:Type):=LI→LI→Int→Int→Z
abbrev E41_4 (R:Type):=(Bool→Option R)→(Option R)→Option R
abbrev Tk:=(R:Type)→D41_4 (E41_4 R)
def znb (L:Tk):LEnt:=lM 4 [.val 0 (.sl (.int .i64)),.val 1 (.sl (.int .i64)),.val 12 (.int .i64),.val 13 (.int .i64)] 0 [(.ret,[.val 4 .bool]),(.exit 0,[])] L
def e41 (L4:Tk):=sE 0 26 [] [] [znb L4]
def p41_4 (R:Type):D41_4 (D41_4 (Option R)→E41_4 R):=fun x1 x2 x3 x4 kc k0 k1=>
let v5:=decide (x4<x3);(match v5 with
|true=>(match bnd x4 x1.length with
|true=>let v6:=x1.getD x4.toNat 0;(match bnd x4 x2.length with
|true=>let v7:=x2.getD x4.toNat 0;let v8:=v6 !=v7;(match v8 with
|true=>k0 false
|false=>let v9:=IntKind.i64.wrap (x4+1);kc x1 x2 x3 v9)
|false=>none)
|false=>none)
|false=>k1)
theorem q41_4 (L4:Tk):LEQ (znb L4) (e41 L4) Tryz.f41 p41_4:=fun _ _ _ _=>by kernel_rfl
def zdg:Nat→Tk
 | 0=>fun _ _ _ _ _ _ _=>none
 | n+1=>fun R x1 x2 x3 x4 k0 k1=>p41_4 R x1 x2 x3 x4 (fun x1 x2 x3 x4=>zdg n R x1 x2 x3 x4 k0 k1) k0 k1
def p41 (L4:Tk):FT41:=fun R a0 a1 k=>
let v1:=(a0.length:Int);let v2:=(a1.length:Int);let v3:=v1 !=v2;(match v3 with
|true=>k false
|false=>let v4:=(a0.length:Int);L4 R a0 a1 v4 (0:Int) (fun x5=>
k x5) (k true))
theorem q41 (L4:Tk):EQ (en41 (p41 L4)) (e41 L4) Tryz.f41 [(.tmp 4,4,false)]:=fun _ _ _=>by kernel_rfl
def F41:FT41:=p41 (zdg FUEL)
theorem lok41_4:LKP (znb (zdg FUEL)) 0 26 4 Tryz.f41:=ST.lok (q41_4 (zdg FUEL)) Ab [] trivial
theorem ok41:OKP (en41 F41):=ST.ok1 (q41 (zdg FUEL)) Ab Tryz.func41 [4] ⟨⟨_,rfl,lok41_4⟩,trivial⟩
abbrev FT16:=(R:Type)→Tq29→Tq29→(Bool→Option R)→Option R
def en16 (F:FT16):Ent:=eV 16 [Kq29,Kq29] [.bool] F
def p16 (F39:FT39) (F40:FT40) (F41:FT41):FT16:=fun R a0 a1 k=>
let v1:=Kd.eqv Kq21 a0.1 a1.1;(match v1 with
|true=>let v2:=a0.2.1==a1.2.1;(match v2 with
|true=>F39 R a0.2.2.1 a1.2.2.1 fun y3=>
(match y3 with
|true=>F40 R a0.2.2.2.1 a1.2.2.2.1 fun y4=>
(match y4 with
|true=>F41 R a0.2.2.2.2.1 a1.2.2.2.2.1 fun y5=>
(match y5 with
|true=>F41 R a0.2.2.2.2.2.1 a1.2.2.2.2.2.1 fun y6=>
k y6
|false=>k false)
|false=>k false)
|false=>k false)
|false=>k false)
|false=>k false)
theorem q16 (F39:FT39) (F40:FT40) (F41:FT41):EQ (en16 (p16 F39 F40 F41)) (sE 0 45 [] [en39 F39,en40 F40,en41 F41] []) Tryz.f16 [(.tmp 4,4,false)]:=fun _ _ _=>by kernel_rfl
def F16:FT16:=p16 F39 F40 F41
theorem ok16:OKP (en16 F16):=ST.ok0 (q16 F39 F40 F41) (Aa ok39 (Aa ok40 (Aa ok41 Ab))) Tryz.func16
abbrev FT8:=(R:Type)→(Bool→Option R)→Option R
def en8 (F:FT8):Ent:=eV 8 [] [.bool] F
abbrev D8_10 (Z:Type):=(List Tq17)→LI→Int→Tq29→LI→Z
abbrev E8_10 (R:Type):=(Bool→Option R)→((List Tq17)→Tq29→LI→Option R)→Option R
abbrev S8:=(R:Type)→D8_10 (E8_10 R)
def zmz (L:S8):LEnt:=lM 10 [.fix 1 (.ptr 0 [] Kq29),.fix 5 (.ptr 2 [] (.arr 32 (.int .u8))),.val 7 (.sl Kq17),.val 8 (.sl (.int .i64)),.val 9 (.int .i64),.var 0 Kq29 false,.var 2 (.arr 32 (.int .u8)) false] 3 [(.ret,[.val 0 .bool]),(.exit 0,[.fix 1 (.ptr 0 [] Kq29),.fix 5 (.ptr 2 [] (.arr 32 (.int .u8))),.val 7 (.sl Kq17),.var 0 Kq29 false,.var 2 (.arr 32 (.int .u8)) false])] L
def e8 (F9:FT9) (F16:FT16) (F17:FT17) (F20:FT20) (F23:FT23) (F24:FT24) (L10:S8):=sE 0 136 [] [en9 F9,en16 F16,en17 F17,en20 F20,en23 F23,en24 F24] [zmz L10]
def p8_10 (R:Type):D8_10 (D8_10 (Option R)→E8_10 R):=fun x1 x2 x3 x4 x5 kc k0 k1=>
let v6:=(x2.length:Int);let v7:=decide (x3<v6);(match v7 with
|true=>(match bnd x3 x1.length with
|true=>let v8:=(x1.getD x3.toNat (0,0,[],(List.replicate 32 0),())).1;(match bnd x3 x2.length with
|true=>let v9:=x2.getD x3.toNat 0;let v10:=v8 !=v9;(match v10 with
|true=>k0 false
|false=>let v11:=IntKind.i64.wrap (x3+1);kc x1 x2 v11 x4 x5)
|false=>none)
|false=>none)
|false=>k1 x1 x4 x5)
theorem q8_10 (F9:FT9) (F16:FT16) (F17:FT17) (F20:FT20) (F23:FT23) (F24:FT24) (L10:S8):LEQ (zmz L10) (e8 F9 F16 F17 F20 F23 F24 L10) Tryz.f8 p8_10:=fun _ _ _ _=>by kernel_rfl
def zc5:Nat→S8
 | 0=>fun _ _ _ _ _ _ _ _=>none
 | n+1=>fun R x1 x2 x3 x4 x5 k0 k1=>p8_10 R x1 x2 x3 x4 x5 (fun x1 x2 x3 x4 x5=>zc5 n R x1 x2 x3 x4 x5 k0 k1) k0 k1
def p8 (F9:FT9) (F16:FT16) (F17:FT17) (F20:FT20) (F23:FT23) (F24:FT24) (L10:S8):FT8:=fun R k=>
let v1:=List.replicate 32 (0:Int);F9 R ((2:Int),(1:Int),(1:Int),(64:Int),(1:Int),()) v1 fun y2 y3=>
let v4:=List.replicate 32 (0:Int);F9 R ((0:Int),(0:Int),(0:Int),(0:Int),(0:Int),()) v4 fun y5 y6=>
let v7:=List.set (List.replicate 32 (0:Int)) 0 (7:Int);F23 R v7 fun y8=>
let v9:=([((1:Int),(0:Int),(5:Int),v7,(0:Int),()),((4:Int),(0:Int),(0:Int),y8,(0:Int),()),((5:Int),(0:Int),(0:Int),v7,(0:Int),()),((7:Int),(0:Int),(0:Int),(List.replicate 32 (0:Int)),(0:Int),()),((6:Int),(0:Int),(0:Int),(List.replicate 32 (0:Int)),(0:Int),()),((5:Int),(0:Int),(0:Int),v7,(0:Int),()),((6:Int),(0:Int),(0:Int),(List.replicate 32 (0:Int)),(0:Int),()),((7:Int),(0:Int),(0:Int),(List.replicate 32 (0:Int)),(1:Int),()),((10:Int),(0:Int),(0:Int),(List.replicate 32 (0:Int)),(0:Int),()),((0:Int),(0:Int),(0:Int),(List.replicate 32 (0:Int)),(99:Int),()),((7:Int),(0:Int),(0:Int),(List.replicate 32 (0:Int)),(2:Int),())]:(List Tq13));F17 R y2 v9 fun y10 y11=>
let v12:=y3 !=0;(match v12 with
|true=>k false
|false=>let v13:=y6 !=1;(match v13 with
|true=>k false
|false=>let v14:=(y11.length:Int);let v15:=(v9.length:Int);let v16:=v14 !=v15;(match v16 with
|true=>k false
|false=>let v17:=([(0:Int),(0:Int),(7:Int),(10:Int),(0:Int),(0:Int),(0:Int),(0:Int),(0:Int),(2:Int),(3:Int)]:LI);L10 R y11 v17 (0:Int) y10 v7 (fun x18=>
k x18) (fun x19 x20 x21=>
(match bnd 4 x19.length with
|true=>let v22:=(x19.getD 4 (0,0,[],(List.replicate 32 0),())).2.1;let v23:=v22==1;(match v23 with
|true=>(match bnd 6 x19.length with
|true=>let v24:=(x19.getD 6 (0,0,[],(List.replicate 32 0),())).2.1;let v25:=v24==0;(match v25 with
|true=>(match bnd 6 x19.length with
|true=>let v26:=(x19.getD 6 (0,0,[],(List.replicate 32 0),())).2.2.2.1;let v27:=List.replicate 32 (0:Int);F24 R v27 (0:Int) x21 fun y28=>
let v29:=Kd.eqv (.arr 32 (.int .u8)) v26 y28;(match v29 with
|true=>(match bnd 7 x19.length with
|true=>let v30:=(x19.getD 7 (0,0,[],(List.replicate 32 0),())).2.2.1;let v31:=([(0:Int)]:LI);F20 R v30 v31 fun y32=>
(match y32 with
|true=>(match bnd 8 x19.length with
|true=>let v33:=(x19.getD 8 (0,0,[],(List.replicate 32 0),())).2.1;let v34:=v33==5;(match v34 with
|true=>let v35:=x20.2.2.2.1.1==1;(match v35 with
|true=>let v36:=(x20.2.2.2.2.2.1.length:Int);let v37:=v36==0;(match v37 with
|true=>F16 R x20 x20 fun y38=>
(match y38 with
|true=>F16 R x20 (((0:Int),(0:Int),(0:Int),(0:Int),(0:Int),()),(0:Int),([]:(List Tq5)),((0:Int),(List.replicate 32 (0:Int)),(List.replicate 32 (0:Int)),([]:(List Tq3)),()),([]:LI),([]:LI),()) fun y39=>
k (!y39)
|false=>k false)
|false=>k false)
|false=>k false)
|false=>k false)
|false=>none)
|false=>k false)
|false=>none)
|false=>k false)
|false=>none)
|false=>k false)
|false=>none)
|false=>k false)
|false=>none)))))
theorem q8 (F9:FT9) (F16:FT16) (F17:FT17) (F20:FT20) (F23:FT23) (F24:FT24) (L10:S8):EQ (en8 (p8 F9 F16 F17 F20 F23 F24 L10)) (e8 F9 F16 F17 F20 F23 F24 L10) Tryz.f8 [(.tmp 0,4,false)]:=fun _ _ _=>by kernel_rfl
def F8:FT8:=p8 F9 F16 F17 F20 F23 F24 (zc5 FUEL)
theorem lok8_10:LKP (zmz (zc5 FUEL)) 0 136 10 Tryz.f8:=ST.lok (q8_10 F9 F16 F17 F20 F23 F24 (zc5 FUEL)) (Aa ok9 (Aa ok16 (Aa ok17 (Aa ok20 (Aa ok23 (Aa ok24 Ab)))))) [] trivial
theorem ok8:OKP (en8 F8):=ST.ok1 (q8 F9 F16 F17 F20 F23 F24 (zc5 FUEL)) (Aa ok9 (Aa ok16 (Aa ok17 (Aa ok20 (Aa ok23 (Aa ok24 Ab)))))) Tryz.func8 [10] ⟨⟨_,rfl,lok8_10⟩,trivial⟩
abbrev FT28:=(R:Type)→Tq21→(Bool→Option R)→Option R
def en28 (F:FT28):Ent:=eV 28 [Kq21] [.bool] F
def p28:FT28:=fun R a0 k=>
let v1:=decide (a0.1≥1);(match v1 with
|true=>let v2:=decide (a0.1≤1024);(match v2 with
|true=>let v3:=decide (a0.2.1≥0);(match v3 with
|true=>let v4:=decide (a0.2.1≤a0.1);(match v4 with
|true=>let v5:=decide (a0.2.2.1≥0);(match v5 with
|true=>let v6:=IntKind.i64.wrap (a0.1 - a0.2.1);let v7:=decide (a0.2.2.1≤v6);(match v7 with
|true=>let v8:=decide (a0.2.2.2.1≥1);(match v8 with
|true=>let v9:=decide (a0.2.2.2.1≤64);(match v9 with
|true=>let v10:=decide (a0.2.2.2.2.1≥1);(match v10 with
|true=>let v11:=decide (a0.2.2.2.2.1≤1048576);k v11
|false=>k false)
|false=>k false)
|false=>k false)
|false=>k false)
|false=>k false)
|false=>k false)
|false=>k false)
|false=>k false)
|false=>k false)
theorem q28:EQ (en28 p28) (sE 0 58 [] [] []) Tryz.f28 [(.tmp 2,4,false)]:=fun _ _ _=>by kernel_rfl
def F28:FT28:=p28
theorem ok28:OKP (en28 F28):=ST.ok0 q28 Ab Tryz.func28
abbrev FT10:=(R:Type)→Tq21→LI→(Tq29→Int→Option R)→Option R
def en10 (F:FT10):Ent:=eV 10 [Kq21,(.arr 32 (.int .u8))] [Kq29,(.int .i64)] F
abbrev D10_5 (Z:Type):=Int→Tq21→Tq29→(List Tq5)→LI→LI→Tq52→Z
abbrev E10_5 (R:Type):=(Tq29→(List Tq5)→LI→LI→Tq52→Option R)→Option R
abbrev Ts:=(R:Type)→D10_5 (E10_5 R)
def znj (L:Ts):LEnt:=lM 5 [.fix 2 (.ptr 0 [] Kq21),.fix 4 (.ptr 2 [] Kq29),.fix 6 (.mptr 11 0 Kq29),.val 7 (.int .i64),.var 0 Kq21 false,.var 2 Kq29 false,.row 3 Kq5 false,.row 5 (.int .i64) false,.row 6 (.int .i64) false,.mix 11 [((.int .i64),none),((.int .i64),none),((.int .i64),none),((.int .i64),none),((.int .i64),none),((.int .i64),none),((.sl Kq5),some 3),((.int .u64),none),((.arr 32 (.int .u8)),none),((.arr 32 (.int .u8)),none),((.sl Kq3),none),((.sl (.int .i64)),some 5),((.sl (.int .i64)),some 6)]] 12 [(.exit 0,[.fix 4 (.ptr 2 [] Kq29),.fix 6 (.mptr 11 0 Kq29),.var 2 Kq29 false,.row 3 Kq5 false,.row 5 (.int .i64) false,.row 6 (.int .i64) false,.mix 11 [((.int .i64),none),((.int .i64),none),((.int .i64),none),((.int .i64),none),((.int .i64),none),((.int .i64),none),((.sl Kq5),some 3),((.int .u64),none),((.arr 32 (.int .u8)),none),((.arr 32 (.int .u8)),none),((.sl Kq3),none),((.sl (.int .i64)),some 5),((.sl (.int .i64)),some 6)]])] L
def e10 (F28:FT28) (L5:Ts):=sE 0 28 [(3,3),(3,4)] [en28 F28] [znj L5]
def p10_5 (R:Type):D10_5 (D10_5 (Option R)→E10_5 R):=fun x1 x2 x3 x4 x5 x6 x7 kc k0=>
let v8:=decide (x1<x2.1);(match v8 with
|true=>let v9:=([(-1:Int)]:LI);(match (decide (x5.length+v9.length≤17592186044416)) with
|true=>let v10:=x5++v9;let v11:=IntKind.i64.wrap (x1+1);kc v11 x2 x3 x4 v10 x6 (x7.1,x7.2.1,x7.2.2.1,x7.2.2.2.1,x7.2.2.2.2.1,x7.2.2.2.2.2.1,x7.2.2.2.2.2.2.1,x7.2.2.2.2.2.2.2.1,x7.2.2.2.2.2.2.2.2.1,x7.2.2.2.2.2.2.2.2.2.1,())
|false=>none)
|false=>k0 x3 x4 x5 x6 (x7.1,x7.2.1,x7.2.2.1,x7.2.2.2.1,x7.2.2.2.2.1,x7.2.2.2.2.2.1,x7.2.2.2.2.2.2.1,x7.2.2.2.2.2.2.2.1,x7.2.2.2.2.2.2.2.2.1,x7.2.2.2.2.2.2.2.2.2.1,()))
theorem q10_5 (F28:FT28) (L5:Ts):LEQ (znj L5) (e10 F28 L5) Tryz.f10 p10_5:=fun _ _ _ _=>by kernel_rfl
def zdt:Nat→Ts
 | 0=>fun _ _ _ _ _ _ _ _ _=>none
 | n+1=>fun R x1 x2 x3 x4 x5 x6 x7 k0=>p10_5 R x1 x2 x3 x4 x5 x6 x7 (fun x1 x2 x3 x4 x5 x6 x7=>zdt n R x1 x2 x3 x4 x5 x6 x7 k0) k0
def p10 (F28:FT28) (L5:Ts):FT10:=fun R a0 a1 k=>
F28 R a0 fun y1=>
(match (!y1) with
|true=>k (((0:Int),(0:Int),(0:Int),(0:Int),(0:Int),()),(0:Int),([]:(List Tq5)),((0:Int),(List.replicate 32 (0:Int)),(List.replicate 32 (0:Int)),([]:(List Tq3)),()),([]:LI),([]:LI),()) (1:Int)
|false=>L5 R (0:Int) a0 (((0:Int),(0:Int),(0:Int),(0:Int),(0:Int),()),(0:Int),([]:(List Tq5)),((0:Int),(List.replicate 32 (0:Int)),(List.replicate 32 (0:Int)),([]:(List Tq3)),()),([]:LI),([]:LI),()) ([]:(List Tq5)) ([]:LI) ([]:LI) (a0.1,a0.2.1,a0.2.2.1,a0.2.2.2.1,a0.2.2.2.2.1,(0:Int),(0:Int),a1,(List.replicate 32 (0:Int)),([]:(List Tq3)),()) (fun x2 x3 x4 x5 x6=>
k ((x6.1,x6.2.1,x6.2.2.1,x6.2.2.2.1,x6.2.2.2.2.1,()),x6.2.2.2.2.2.1,x3,(x6.2.2.2.2.2.2.1,x6.2.2.2.2.2.2.2.1,x6.2.2.2.2.2.2.2.2.1,x6.2.2.2.2.2.2.2.2.2.1,()),x4,x5,()) (0:Int)))
theorem q10 (F28:FT28) (L5:Ts):EQ (en10 (p10 F28 L5)) (e10 F28 L5) Tryz.f10 [(.cell 4 34,34,false),(.tmp 5,35,false)]:=fun _ _ _=>by kernel_rfl
def F10:FT10:=p10 F28 (zdt FUEL)
theorem lok10_5:LKP (znj (zdt FUEL)) 0 28 5 Tryz.f10:=ST.lok (q10_5 F28 (zdt FUEL)) (Aa ok28 Ab) [] trivial
theorem ok10:OKP (en10 F10):=ST.ok1 (q10 F28 (zdt FUEL)) (Aa ok28 Ab) Tryz.func10 [5] ⟨⟨_,rfl,lok10_5⟩,trivial⟩
abbrev FT29:=(R:Type)→(List Tq5)→(List Tq5)→(Bool→Option R)→Option R
def en29 (F:FT29):Ent:=eV 29 [(.sl Kq5),(.sl Kq5)] [.bool] F
abbrev D29_4 (Z:Type):=(List Tq5)→(List Tq5)→Int→Z
abbrev E29_4 (R:Type):=(Bool→Option R)→(Option R)→Option R
abbrev Tl:=(R:Type)→D29_4 (E29_4 R)
def znc (L:Tl):LEnt:=lM 4 [.val 0 (.sl Kq5),.val 1 (.sl Kq5),.val 5 (.int .i64)] 0 [(.ret,[.val 4 .bool]),(.exit 0,[])] L
def e29 (L4:Tl):=sE 0 26 [] [] [znc L4]
def p29_4 (R:Type):D29_4 (D29_4 (Option R)→E29_4 R):=fun x1 x2 x3 kc k0 k1=>
let v4:=(x1.length:Int);let v5:=decide (x3<v4);(match v5 with
|true=>(match bnd x3 x1.length with
|true=>let v6:=x1.getD x3.toNat ((List.replicate 32 0),0,0,());(match bnd x3 x2.length with
|true=>let v7:=x2.getD x3.toNat ((List.replicate 32 0),0,0,());let v8:= !(Kd.eqv Kq5 v6 v7);(match v8 with
|true=>k0 false
|false=>let v9:=IntKind.i64.wrap (x3+1);kc x1 x2 v9)
|false=>none)
|false=>none)
|false=>k1)
theorem q29_4 (L4:Tl):LEQ (znc L4) (e29 L4) Tryz.f29 p29_4:=fun _ _ _ _=>by kernel_rfl
def zdh:Nat→Tl
 | 0=>fun _ _ _ _ _ _=>none
 | n+1=>fun R x1 x2 x3 k0 k1=>p29_4 R x1 x2 x3 (fun x1 x2 x3=>zdh n R x1 x2 x3 k0 k1) k0 k1
def p29 (L4:Tl):FT29:=fun R a0 a1 k=>
let v1:=(a0.length:Int);let v2:=(a1.length:Int);let v3:=v1 !=v2;(match v3 with
|true=>k false
|false=>L4 R a0 a1 (0:Int) (fun x4=>
k x4) (k true))
theorem q29 (L4:Tl):EQ (en29 (p29 L4)) (e29 L4) Tryz.f29 [(.tmp 4,4,false)]:=fun _ _ _=>by kernel_rfl
def F29:FT29:=p29 (zdh FUEL)
theorem lok29_4:LKP (znc (zdh FUEL)) 0 26 4 Tryz.f29:=ST.lok (q29_4 (zdh FUEL)) Ab [] trivial
theorem ok29:OKP (en29 F29):=ST.ok1 (q29 (zdh FUEL)) Ab Tryz.func29 [4] ⟨⟨_,rfl,lok29_4⟩,trivial⟩
abbrev FT50:=(R:Type)→(List Tq3)→(List Tq3)→(Bool→Option R)→Option R
def en50 (F:FT50):Ent:=eV 50 [(.sl Kq3),(.sl Kq3)] [.bool] F
abbrev D50_4 (Z:Type):=(List Tq3)→(List Tq3)→Int→Z
abbrev E50_4 (R:Type):=(Bool→Option R)→(Option R)→Option R
abbrev Th:=(R:Type)→D50_4 (E50_4 R)
def zm8 (L:Th):LEnt:=lM 4 [.val 0 (.sl Kq3),.val 1 (.sl Kq3),.val 5 (.int .i64)] 0 [(.ret,[.val 4 .bool]),(.exit 0,[])] L
def e50 (L4:Th):=sE 0 26 [] [] [zm8 L4]
def p50_4 (R:Type):D50_4 (D50_4 (Option R)→E50_4 R):=fun x1 x2 x3 kc k0 k1=>
let v4:=(x1.length:Int);let v5:=decide (x3<v4);(match v5 with
|true=>(match bnd x3 x1.length with
|true=>let v6:=x1.getD x3.toNat (0,(List.replicate 32 0),false,(List.replicate 32 0),());(match bnd x3 x2.length with
|true=>let v7:=x2.getD x3.toNat (0,(List.replicate 32 0),false,(List.replicate 32 0),());let v8:= !(Kd.eqv Kq3 v6 v7);(match v8 with
|true=>k0 false
|false=>let v9:=IntKind.i64.wrap (x3+1);kc x1 x2 v9)
|false=>none)
|false=>none)
|false=>k1)
theorem q50_4 (L4:Th):LEQ (zm8 L4) (e50 L4) Tryz.f50 p50_4:=fun _ _ _ _=>by kernel_rfl
def zde:Nat→Th
 | 0=>fun _ _ _ _ _ _=>none
 | n+1=>fun R x1 x2 x3 k0 k1=>p50_4 R x1 x2 x3 (fun x1 x2 x3=>zde n R x1 x2 x3 k0 k1) k0 k1
def p50 (L4:Th):FT50:=fun R a0 a1 k=>
let v1:=(a0.length:Int);let v2:=(a1.length:Int);let v3:=v1 !=v2;(match v3 with
|true=>k false
|false=>L4 R a0 a1 (0:Int) (fun x4=>
k x4) (k true))
theorem q50 (L4:Th):EQ (en50 (p50 L4)) (e50 L4) Tryz.f50 [(.tmp 4,4,false)]:=fun _ _ _=>by kernel_rfl
def F50:FT50:=p50 (zde FUEL)
theorem lok50_4:LKP (zm8 (zde FUEL)) 0 26 4 Tryz.f50:=ST.lok (q50_4 (zde FUEL)) Ab [] trivial
theorem ok50:OKP (en50 F50):=ST.ok1 (q50 (zde FUEL)) Ab Tryz.func50 [4] ⟨⟨_,rfl,lok50_4⟩,trivial⟩
abbrev FT30:=(R:Type)→Tq24→Tq24→(Bool→Option R)→Option R
def en30 (F:FT30):Ent:=eV 30 [Kq24,Kq24] [.bool] F
def p30 (F50:FT50):FT30:=fun R a0 a1 k=>
let v1:=a0.1==a1.1;(match v1 with
|true=>let v2:=Kd.eqv (.arr 32 (.int .u8)) a0.2.1 a1.2.1;(match v2 with
|true=>let v3:=Kd.eqv (.arr 32 (.int .u8)) a0.2.2.1 a1.2.2.1;(match v3 with
|true=>F50 R a0.2.2.2.1 a1.2.2.2.1 fun y4=>
k y4
|false=>k false)
|false=>k false)
|false=>k false)
theorem q30 (F50:FT50):EQ (en30 (p30 F50)) (sE 0 31 [] [en50 F50] []) Tryz.f30 [(.tmp 4,4,false)]:=fun _ _ _=>by kernel_rfl
def F30:FT30:=p30 F50
theorem ok30:OKP (en30 F30):=ST.ok0 (q30 F50) (Aa ok50 Ab) Tryz.func30
abbrev FT11:=(R:Type)→Tq29→Tq29→(Bool→Option R)→Option R
def en11 (F:FT11):Ent:=eV 11 [Kq29,Kq29] [.bool] F
def p11 (F20:FT20) (F29:FT29) (F30:FT30):FT11:=fun R a0 a1 k=>
let v1:=Kd.eqv Kq21 a0.1 a1.1;(match v1 with
|true=>let v2:=a0.2.1==a1.2.1;(match v2 with
|true=>F29 R a0.2.2.1 a1.2.2.1 fun y3=>
(match y3 with
|true=>F30 R a0.2.2.2.1 a1.2.2.2.1 fun y4=>
(match y4 with
|true=>F20 R a0.2.2.2.2.1 a1.2.2.2.2.1 fun y5=>
(match y5 with
|true=>F20 R a0.2.2.2.2.2.1 a1.2.2.2.2.2.1 fun y6=>
k y6
|false=>k false)
|false=>k false)
|false=>k false)
|false=>k false)
|false=>k false)
theorem q11 (F20:FT20) (F29:FT29) (F30:FT30):EQ (en11 (p11 F20 F29 F30)) (sE 0 45 [] [en20 F20,en29 F29,en30 F30] []) Tryz.f11 [(.tmp 4,4,false)]:=fun _ _ _=>by kernel_rfl
def F11:FT11:=p11 F20 F29 F30
theorem ok11:OKP (en11 F11):=ST.ok0 (q11 F20 F29 F30) (Aa ok20 (Aa ok29 (Aa ok30 Ab))) Tryz.func11
abbrev FT3:=(R:Type)→Tq21→LI→(Bool→Option R)→Option R
def en3 (F:FT3):Ent:=eV 3 [Kq21,(.arr 32 (.int .u8))] [.bool] F
def p3 (F8:FT8) (F9:FT9) (F10:FT10) (F11:FT11):FT3:=fun R a0 a1 k=>
F8 R  fun y1=>
(match (!y1) with
|true=>k false
|false=>F9 R a0 a1 fun y2 y3=>
F10 R a0 a1 fun y4 y5=>
F11 R y2 y4 fun y6=>
(match y6 with
|true=>let v7:=y3==y5;k v7
|false=>k false))
theorem q3 (F8:FT8) (F9:FT9) (F10:FT10) (F11:FT11):EQ (en3 (p3 F8 F9 F10 F11)) (sE 0 31 [] [en8 F8,en9 F9,en10 F10,en11 F11] []) Tryz.f3 [(.tmp 4,4,false)]:=fun _ _ _=>by kernel_rfl
abbrev FT12:=(R:Type)→LI→(Tq21→Option R)→Option R
def en12 (F:FT12):Ent:=eV 12 [(.arr 5 (.int .u8))] [Kq21] F
def p12:FT12:=fun R a0 k=>
let v1:=a0.getD 0 0;let v2:=Int.tmod v1 (6:Int);let v3:=IntKind.i64.wrap v2;let v4:=IntKind.i64.wrap ((1:Int)+v3);let v5:=a0.getD 3 0;let v6:=Int.tmod v5 (64:Int);let v7:=IntKind.i64.wrap v6;let v8:=IntKind.i64.wrap ((1:Int)+v7);let v9:=a0.getD 4 0;let v10:=Int.tmod v9 (6:Int);let v11:=IntKind.i64.wrap v10;let v12:=IntKind.i64.wrap ((1:Int)+v11);let v13:=a0.getD 1 0;let v14:=IntKind.i64.wrap v13;let v15:=IntKind.i64.wrap (v4+1);(match (!(v15==0)) with
|true=>let v16:=Int.tmod v14 v15;let v17:=a0.getD 2 0;let v18:=IntKind.i64.wrap v17;let v19:=IntKind.i64.wrap (v4 - v16);let v20:=IntKind.i64.wrap (v19+1);(match (!(v20==0)) with
|true=>let v21:=Int.tmod v18 v20;k (v4,v16,v21,v8,v12,())
|false=>none)
|false=>none)
theorem q12:EQ (en12 p12) (sE 0 40 [] [] []) Tryz.f12 [(.cell 2 23,23,false)]:=fun _ _ _=>by kernel_rfl
def F12:FT12:=p12
theorem ok12:OKP (en12 F12):=ST.ok0 q12 Ab Tryz.func12
abbrev FT68:=(R:Type)→Int→(ByteArray→Option R)→Option R
def en68 (F:FT68):Ent:=eV 68 [(.int .i64)] [.str] F
def p68:FT68:=fun R a0 k=>
let v1:=a0==1;(match v1 with
|true=>k (⟨#[104,97]⟩:ByteArray)
|false=>let v2:=a0==2;(match v2 with
|true=>k (⟨#[119,97]⟩:ByteArray)
|false=>let v3:=a0==3;(match v3 with
|true=>k (⟨#[119,97]⟩:ByteArray)
|false=>let v4:=a0==4;(match v4 with
|true=>k (⟨#[119,104]⟩:ByteArray)
|false=>let v5:=a0==5;(match v5 with
|true=>k (⟨#[119,104]⟩:ByteArray)
|false=>let v6:=a0==6;(match v6 with
|true=>k (⟨#[45]⟩:ByteArray)
|false=>let v7:=a0==11;(match v7 with
|true=>k (⟨#[45]⟩:ByteArray)
|false=>let v8:=a0==7;(match v8 with
|true=>k (⟨#[110]⟩:ByteArray)
|false=>let v9:=a0==8;(match v9 with
|true=>k (⟨#[110]⟩:ByteArray)
|false=>let v10:=a0==9;(match v10 with
|true=>k (⟨#[110,119]⟩:ByteArray)
|false=>let v11:=a0==10;(match v11 with
|true=>k (⟨#[119,110]⟩:ByteArray)
|false=>k (⟨#[]⟩:ByteArray))))))))))))
theorem q68:EQ (en68 p68) (sE 0 22 [] [] []) Tryz.f68 [(.tmp 2,9,false)]:=fun _ _ _=>by kernel_rfl
def F68:FT68:=p68
theorem ok68:OKP (en68 F68):=ST.ok0 q68 Ab Tryz.func68
abbrev ze5:=(R:Type)→Int→(Int→Option R)→Option R
def en115 (F:ze5):Ent:=eV 115 [(.int .u8)] [(.int .i64)] F
def p115:ze5:=fun R a0 k=>
let v1:=a0==119;(match v1 with
|true=>k (4:Int)
|false=>let v2:=a0==110;(match v2 with
|true=>k (4:Int)
|false=>let v3:=a0==97;(match v3 with
|true=>k (8:Int)
|false=>let v4:=a0==104;(match v4 with
|true=>k (32:Int)
|false=>k (0:Int)))))
theorem q115:EQ (en115 p115) (sE 0 11 [] [] []) Tryz.f115 [(.tmp 2,3,false)]:=fun _ _ _=>by kernel_rfl
def F115:ze5:=p115
theorem ok115:OKP (en115 F115):=ST.ok0 q115 Ab Tryz.func115
abbrev FT69:=(R:Type)→Int→(Int→Bool→Option R)→Option R
def en69 (F:FT69):Ent:=eV 69 [(.int .i64)] [(.int .i64),.bool] F
abbrev D69_6 (Z:Type):=ByteArray→Int→Int→Z
abbrev E69_6 (R:Type):=(Int→Option R)→Option R
abbrev Tf:=(R:Type)→D69_6 (E69_6 R)
def zm6 (L:Tf):LEnt:=lM 6 [.val 4 .str,.val 5 (.int .i64),.val 6 (.int .i64)] 0 [(.exit 0,[.val 5 (.int .i64)])] L
def e69 (F68:FT68) (F115:ze5) (L6:Tf):=sE 0 24 [] [en68 F68,en115 F115] [zm6 L6]
def p69_6 (F115:ze5) (R:Type):D69_6 (D69_6 (Option R)→E69_6 R):=fun x1 x2 x3 kc k0=>
let v4:=(ByteArray.size x1:Int);let v5:=decide (x3<v4);(match v5 with
|true=>(match (bnd x3 (ByteArray.size x1:Int)) with
|true=>let v6:=((List.getD (Array.toList (ByteArray.data x1)) x3.toNat 0).toNat:Int);F115 R v6 fun y7=>
let v8:=IntKind.i64.wrap (x2+y7);let v9:=IntKind.i64.wrap (x3+1);kc x1 v8 v9
|false=>none)
|false=>k0 x2)
theorem q69_6 (F68:FT68) (F115:ze5) (L6:Tf):LEQ (zm6 L6) (e69 F68 F115 L6) Tryz.f69 (p69_6 F115):=fun _ _ _ _=>by kernel_rfl
def zdd:Nat→Tf
 | 0=>fun _ _ _ _ _=>none
 | n+1=>fun R x1 x2 x3 k0=>p69_6 F115 R x1 x2 x3 (fun x1 x2 x3=>zdd n R x1 x2 x3 k0) k0
def p69 (F68:FT68) (L6:Tf):FT69:=fun R a0 k=>
F68 R a0 fun y1=>
let v2:=ByteArray.toList y1==ByteArray.toList (⟨#[]⟩:ByteArray);(match v2 with
|true=>k (0:Int) false
|false=>L6 R y1 (1:Int) (0:Int) (fun x3=>
k x3 true))
theorem q69 (F68:FT68) (F115:ze5) (L6:Tf):EQ (en69 (p69 F68 L6)) (e69 F68 F115 L6) Tryz.f69 [(.tmp 2,3,false),(.tmp 3,4,false)]:=fun _ _ _=>by kernel_rfl
def F69:FT69:=p69 F68 (zdd FUEL)
theorem lok69_6:LKP (zm6 (zdd FUEL)) 0 24 6 Tryz.f69:=ST.lok (q69_6 F68 F115 (zdd FUEL)) (Aa ok68 (Aa ok115 Ab)) [] trivial
theorem ok69:OKP (en69 F69):=ST.ok1 (q69 F68 F115 (zdd FUEL)) (Aa ok68 (Aa ok115 Ab)) Tryz.func69 [6] ⟨⟨_,rfl,lok69_6⟩,trivial⟩
abbrev FT70:=(R:Type)→ByteArray→Int→(Bool→Option R)→Option R
def en70 (F:FT70):Ent:=eV 70 [.str,(.int .u8)] [.bool] F
abbrev D70_2 (Z:Type):=ByteArray→Int→Int→Z
abbrev E70_2 (R:Type):=(Bool→Option R)→(Option R)→Option R
abbrev Te:=(R:Type)→D70_2 (E70_2 R)
def zm5 (L:Te):LEnt:=lM 2 [.val 0 .str,.val 1 (.int .u8),.val 5 (.int .i64)] 0 [(.ret,[.val 4 .bool]),(.exit 0,[])] L
def e70 (L2:Te):=sE 0 17 [] [] [zm5 L2]
def p70_2 (R:Type):D70_2 (D70_2 (Option R)→E70_2 R):=fun x1 x2 x3 kc k0 k1=>
let v4:=(ByteArray.size x1:Int);let v5:=decide (x3<v4);(match v5 with
|true=>(match (bnd x3 (ByteArray.size x1:Int)) with
|true=>let v6:=((List.getD (Array.toList (ByteArray.data x1)) x3.toNat 0).toNat:Int);let v7:=v6==x2;(match v7 with
|true=>k0 true
|false=>let v8:=IntKind.i64.wrap (x3+1);kc x1 x2 v8)
|false=>none)
|false=>k1)
theorem q70_2 (L2:Te):LEQ (zm5 L2) (e70 L2) Tryz.f70 p70_2:=fun _ _ _ _=>by kernel_rfl
def zdc:Nat→Te
 | 0=>fun _ _ _ _ _ _=>none
 | n+1=>fun R x1 x2 x3 k0 k1=>p70_2 R x1 x2 x3 (fun x1 x2 x3=>zdc n R x1 x2 x3 k0 k1) k0 k1
def p70 (L2:Te):FT70:=fun R a0 a1 k=>
L2 R a0 a1 (0:Int) (fun x1=>
k x1) (k false)
theorem q70 (L2:Te):EQ (en70 (p70 L2)) (e70 L2) Tryz.f70 [(.tmp 4,4,false)]:=fun _ _ _=>by kernel_rfl
def F70:FT70:=p70 (zdc FUEL)
theorem lok70_2:LKP (zm5 (zdc FUEL)) 0 17 2 Tryz.f70:=ST.lok (q70_2 (zdc FUEL)) Ab [] trivial
theorem ok70:OKP (en70 F70):=ST.ok1 (q70 (zdc FUEL)) Ab Tryz.func70 [2] ⟨⟨_,rfl,lok70_2⟩,trivial⟩
abbrev FT33:=(R:Type)→Tq13→(Bool→Option R)→Option R
def en33 (F:FT33):Ent:=eV 33 [Kq13] [.bool] F
def p33 (F68:FT68) (F69:FT69) (F70:FT70):FT33:=fun R a0 k=>
F68 R a0.1 fun y1=>
let v2:=ByteArray.toList y1==ByteArray.toList (⟨#[]⟩:ByteArray);(match v2 with
|true=>F69 R a0.2.2.2.2.1 fun y3 y4=>
let v5:=Kd.eqv Kq13 a0 ((0:Int),(0:Int),(0:Int),(List.replicate 32 (0:Int)),a0.2.2.2.2.1,());(match v5 with
|true=>let v6:=decide (a0.2.2.2.2.1≥0);(match v6 with
|true=>let v7:=decide (a0.2.2.2.2.1≤255);(match v7 with
|true=>k (!y4)
|false=>k false)
|false=>k false)
|false=>k false)
|false=>F70 R y1 (119:Int) fun y8=>
(match (!y8) with
|true=>let v9:=a0.2.1 !=0;(match v9 with
|true=>k false
|false=>F70 R y1 (110:Int) fun y10=>
(match (!y10) with
|true=>let v11:=a0.2.2.2.2.1 !=0;(match v11 with
|true=>k false
|false=>F70 R y1 (97:Int) fun y12=>
(match (!y12) with
|true=>let v13:=a0.2.2.1 !=0;(match v13 with
|true=>k false
|false=>F70 R y1 (104:Int) fun y14=>
(match (!y14) with
|true=>let v15:=List.replicate 32 (0:Int);let v16:= !(Kd.eqv (.arr 32 (.int .u8)) a0.2.2.2.1 v15);(match v16 with
|true=>k false
|false=>let v17:=decide (a0.2.1≥0);(match v17 with
|true=>let v18:=decide (a0.2.1<4294967296);(match v18 with
|true=>let v19:=decide (a0.2.2.2.2.1≥0);(match v19 with
|true=>let v20:=decide (a0.2.2.2.2.1<4294967296);k v20
|false=>k false)
|false=>k false)
|false=>k false))
|false=>let v21:=decide (a0.2.1≥0);(match v21 with
|true=>let v22:=decide (a0.2.1<4294967296);(match v22 with
|true=>let v23:=decide (a0.2.2.2.2.1≥0);(match v23 with
|true=>let v24:=decide (a0.2.2.2.2.1<4294967296);k v24
|false=>k false)
|false=>k false)
|false=>k false)))
|false=>F70 R y1 (104:Int) fun y25=>
(match (!y25) with
|true=>let v26:=List.replicate 32 (0:Int);let v27:= !(Kd.eqv (.arr 32 (.int .u8)) a0.2.2.2.1 v26);(match v27 with
|true=>k false
|false=>let v28:=decide (a0.2.1≥0);(match v28 with
|true=>let v29:=decide (a0.2.1<4294967296);(match v29 with
|true=>let v30:=decide (a0.2.2.2.2.1≥0);(match v30 with
|true=>let v31:=decide (a0.2.2.2.2.1<4294967296);k v31
|false=>k false)
|false=>k false)
|false=>k false))
|false=>let v32:=decide (a0.2.1≥0);(match v32 with
|true=>let v33:=decide (a0.2.1<4294967296);(match v33 with
|true=>let v34:=decide (a0.2.2.2.2.1≥0);(match v34 with
|true=>let v35:=decide (a0.2.2.2.2.1<4294967296);k v35
|false=>k false)
|false=>k false)
|false=>k false))))
|false=>F70 R y1 (97:Int) fun y36=>
(match (!y36) with
|true=>let v37:=a0.2.2.1 !=0;(match v37 with
|true=>k false
|false=>F70 R y1 (104:Int) fun y38=>
(match (!y38) with
|true=>let v39:=List.replicate 32 (0:Int);let v40:= !(Kd.eqv (.arr 32 (.int .u8)) a0.2.2.2.1 v39);(match v40 with
|true=>k false
|false=>let v41:=decide (a0.2.1≥0);(match v41 with
|true=>let v42:=decide (a0.2.1<4294967296);(match v42 with
|true=>let v43:=decide (a0.2.2.2.2.1≥0);(match v43 with
|true=>let v44:=decide (a0.2.2.2.2.1<4294967296);k v44
|false=>k false)
|false=>k false)
|false=>k false))
|false=>let v45:=decide (a0.2.1≥0);(match v45 with
|true=>let v46:=decide (a0.2.1<4294967296);(match v46 with
|true=>let v47:=decide (a0.2.2.2.2.1≥0);(match v47 with
|true=>let v48:=decide (a0.2.2.2.2.1<4294967296);k v48
|false=>k false)
|false=>k false)
|false=>k false)))
|false=>F70 R y1 (104:Int) fun y49=>
(match (!y49) with
|true=>let v50:=List.replicate 32 (0:Int);let v51:= !(Kd.eqv (.arr 32 (.int .u8)) a0.2.2.2.1 v50);(match v51 with
|true=>k false
|false=>let v52:=decide (a0.2.1≥0);(match v52 with
|true=>let v53:=decide (a0.2.1<4294967296);(match v53 with
|true=>let v54:=decide (a0.2.2.2.2.1≥0);(match v54 with
|true=>let v55:=decide (a0.2.2.2.2.1<4294967296);k v55
|false=>k false)
|false=>k false)
|false=>k false))
|false=>let v56:=decide (a0.2.1≥0);(match v56 with
|true=>let v57:=decide (a0.2.1<4294967296);(match v57 with
|true=>let v58:=decide (a0.2.2.2.2.1≥0);(match v58 with
|true=>let v59:=decide (a0.2.2.2.2.1<4294967296);k v59
|false=>k false)
|false=>k false)
|false=>k false)))))
|false=>F70 R y1 (110:Int) fun y60=>
(match (!y60) with
|true=>let v61:=a0.2.2.2.2.1 !=0;(match v61 with
|true=>k false
|false=>F70 R y1 (97:Int) fun y62=>
(match (!y62) with
|true=>let v63:=a0.2.2.1 !=0;(match v63 with
|true=>k false
|false=>F70 R y1 (104:Int) fun y64=>
(match (!y64) with
|true=>let v65:=List.replicate 32 (0:Int);let v66:= !(Kd.eqv (.arr 32 (.int .u8)) a0.2.2.2.1 v65);(match v66 with
|true=>k false
|false=>let v67:=decide (a0.2.1≥0);(match v67 with
|true=>let v68:=decide (a0.2.1<4294967296);(match v68 with
|true=>let v69:=decide (a0.2.2.2.2.1≥0);(match v69 with
|true=>let v70:=decide (a0.2.2.2.2.1<4294967296);k v70
|false=>k false)
|false=>k false)
|false=>k false))
|false=>let v71:=decide (a0.2.1≥0);(match v71 with
|true=>let v72:=decide (a0.2.1<4294967296);(match v72 with
|true=>let v73:=decide (a0.2.2.2.2.1≥0);(match v73 with
|true=>let v74:=decide (a0.2.2.2.2.1<4294967296);k v74
|false=>k false)
|false=>k false)
|false=>k false)))
|false=>F70 R y1 (104:Int) fun y75=>
(match (!y75) with
|true=>let v76:=List.replicate 32 (0:Int);let v77:= !(Kd.eqv (.arr 32 (.int .u8)) a0.2.2.2.1 v76);(match v77 with
|true=>k false
|false=>let v78:=decide (a0.2.1≥0);(match v78 with
|true=>let v79:=decide (a0.2.1<4294967296);(match v79 with
|true=>let v80:=decide (a0.2.2.2.2.1≥0);(match v80 with
|true=>let v81:=decide (a0.2.2.2.2.1<4294967296);k v81
|false=>k false)
|false=>k false)
|false=>k false))
|false=>let v82:=decide (a0.2.1≥0);(match v82 with
|true=>let v83:=decide (a0.2.1<4294967296);(match v83 with
|true=>let v84:=decide (a0.2.2.2.2.1≥0);(match v84 with
|true=>let v85:=decide (a0.2.2.2.2.1<4294967296);k v85
|false=>k false)
|false=>k false)
|false=>k false))))
|false=>F70 R y1 (97:Int) fun y86=>
(match (!y86) with
|true=>let v87:=a0.2.2.1 !=0;(match v87 with
|true=>k false
|false=>F70 R y1 (104:Int) fun y88=>
(match (!y88) with
|true=>let v89:=List.replicate 32 (0:Int);let v90:= !(Kd.eqv (.arr 32 (.int .u8)) a0.2.2.2.1 v89);(match v90 with
|true=>k false
|false=>let v91:=decide (a0.2.1≥0);(match v91 with
|true=>let v92:=decide (a0.2.1<4294967296);(match v92 with
|true=>let v93:=decide (a0.2.2.2.2.1≥0);(match v93 with
|true=>let v94:=decide (a0.2.2.2.2.1<4294967296);k v94
|false=>k false)
|false=>k false)
|false=>k false))
|false=>let v95:=decide (a0.2.1≥0);(match v95 with
|true=>let v96:=decide (a0.2.1<4294967296);(match v96 with
|true=>let v97:=decide (a0.2.2.2.2.1≥0);(match v97 with
|true=>let v98:=decide (a0.2.2.2.2.1<4294967296);k v98
|false=>k false)
|false=>k false)
|false=>k false)))
|false=>F70 R y1 (104:Int) fun y99=>
(match (!y99) with
|true=>let v100:=List.replicate 32 (0:Int);let v101:= !(Kd.eqv (.arr 32 (.int .u8)) a0.2.2.2.1 v100);(match v101 with
|true=>k false
|false=>let v102:=decide (a0.2.1≥0);(match v102 with
|true=>let v103:=decide (a0.2.1<4294967296);(match v103 with
|true=>let v104:=decide (a0.2.2.2.2.1≥0);(match v104 with
|true=>let v105:=decide (a0.2.2.2.2.1<4294967296);k v105
|false=>k false)
|false=>k false)
|false=>k false))
|false=>let v106:=decide (a0.2.1≥0);(match v106 with
|true=>let v107:=decide (a0.2.1<4294967296);(match v107 with
|true=>let v108:=decide (a0.2.2.2.2.1≥0);(match v108 with
|true=>let v109:=decide (a0.2.2.2.2.1<4294967296);k v109
|false=>k false)
|false=>k false)
|false=>k false))))))
theorem q33 (F68:FT68) (F69:FT69) (F70:FT70):EQ (en33 (p33 F68 F69 F70)) (sE 0 93 [] [en68 F68,en69 F69,en70 F70] []) Tryz.f33 [(.tmp 2,4,false)]:=fun _ _ _=>by kernel_rfl
def F33:FT33:=p33 F68 F69 F70
theorem ok33:OKP (en33 F33):=ST.ok0 (q33 F68 F69 F70) (Aa ok68 (Aa ok69 (Aa ok70 Ab))) Tryz.func33
abbrev FT34:=(R:Type)→Int→(Tq17→Option R)→Option R
def en34 (F:FT34):Ent:=eV 34 [(.int .i64)] [Kq17] F
def p34:FT34:=fun R a0 k=>
k (a0,(0:Int),([]:LI),(List.replicate 32 (0:Int)),())
theorem q34:EQ (en34 p34) (sE 0 5 [] [] []) Tryz.f34 [(.cell 2 44,44,false)]:=fun _ _ _=>by kernel_rfl
def F34:FT34:=p34
theorem ok34:OKP (en34 F34):=ST.ok0 q34 Ab Tryz.func34
abbrev FT22:=(R:Type)→(List Tq5)→(LI→Option R)→Option R
def en22 (F:FT22):Ent:=eV 22 [(.sl Kq5)] [(.sl (.int .u64))] F
abbrev D22_3 (Z:Type):=(List Tq5)→Int→LI→Z
abbrev E22_3 (R:Type):=(LI→Option R)→Option R
abbrev To:=(R:Type)→D22_3 (E22_3 R)
def znf (L:To):LEnt:=lM 3 [.val 0 (.sl Kq5),.fix 3 (.own 0 0),.val 4 (.int .i64),.row 0 (.int .u64) false] 1 [(.exit 0,[.fix 3 (.own 0 0),.row 0 (.int .u64) false])] L
def e22 (L3:To):=sE 0 20 [(1,0)] [] [znf L3]
def p22_3 (R:Type):D22_3 (D22_3 (Option R)→E22_3 R):=fun x1 x2 x3 kc k0=>
let v4:=(x1.length:Int);let v5:=decide (x2<v4);(match v5 with
|true=>(match bnd x2 x1.length with
|true=>let v6:=(x1.getD x2.toNat ((List.replicate 32 0),0,0,())).2.1;let v7:=([v6]:LI);(match (decide (x3.length+v7.length≤17592186044416)) with
|true=>let v8:=x3++v7;let v9:=IntKind.i64.wrap (x2+1);kc x1 v9 v8
|false=>none)
|false=>none)
|false=>k0 x3)
theorem q22_3 (L3:To):LEQ (znf L3) (e22 L3) Tryz.f22 p22_3:=fun _ _ _ _=>by kernel_rfl
def zdm:Nat→To
 | 0=>fun _ _ _ _ _=>none
 | n+1=>fun R x1 x2 x3 k0=>p22_3 R x1 x2 x3 (fun x1 x2 x3=>zdm n R x1 x2 x3 k0) k0
def p22 (L3:To):FT22:=fun R a0 k=>
L3 R a0 (0:Int) ([]:LI) (fun x1=>
k x1)
theorem q22 (L3:To):EQ (en22 (p22 L3)) (e22 L3) Tryz.f22 [(.tmp 2,63,false)]:=fun _ _ _=>by kernel_rfl
def F22:FT22:=p22 (zdm FUEL)
theorem lok22_3:LKP (znf (zdm FUEL)) 0 20 3 Tryz.f22:=ST.lok (q22_3 (zdm FUEL)) Ab [] trivial
theorem ok22:OKP (en22 F22):=ST.ok1 (q22 (zdm FUEL)) Ab Tryz.func22 [3] ⟨⟨_,rfl,lok22_3⟩,trivial⟩
abbrev ze3:=(R:Type)→Int→Int→(Int→Bool→Option R)→Option R
def en128 (F:ze3):Ent:=eV 128 [(.int .u64),(.int .u64)] [(.int .u64),.bool] F
def p128:ze3:=fun R a0 a1 k=>
let v1:=decide (a0≥9223372036854775808);(match v1 with
|true=>k (0:Int) false
|false=>let v2:=IntKind.u64.wrap ((9223372036854775808:Int) - a0);let v3:=decide (a1≥v2);(match v3 with
|true=>k (0:Int) false
|false=>let v4:=IntKind.u64.wrap (a0+a1);k v4 true))
theorem q128:EQ (en128 p128) (sE 0 17 [] [] []) Tryz.f128 [(.tmp 4,28,false),(.tmp 5,4,false)]:=fun _ _ _=>by kernel_rfl
def F128:ze3:=p128
theorem ok128:OKP (en128 F128):=ST.ok0 q128 Ab Tryz.func128
abbrev FT86:=(R:Type)→LI→(Int→Bool→Option R)→Option R
def en86 (F:FT86):Ent:=eV 86 [(.sl (.int .u64))] [(.int .u64),.bool] F
abbrev D86_3 (Z:Type):=LI→Int→Int→Z
abbrev E86_3 (R:Type):=(Int→Bool→Option R)→(Int→Option R)→Option R
abbrev Ta:=(R:Type)→D86_3 (E86_3 R)
def zm1 (L:Ta):LEnt:=lM 3 [.val 0 (.sl (.int .u64)),.val 4 (.int .u64),.val 5 (.int .i64)] 0 [(.ret,[.val 2 (.int .u64),.val 3 .bool]),(.exit 0,[.val 4 (.int .u64)])] L
def e86 (F128:ze3) (L3:Ta):=sE 0 27 [] [en128 F128] [zm1 L3]
def p86_3 (F128:ze3) (R:Type):D86_3 (D86_3 (Option R)→E86_3 R):=fun x1 x2 x3 kc k0 k1=>
let v4:=(x1.length:Int);let v5:=decide (x3<v4);(match v5 with
|true=>(match bnd x3 x1.length with
|true=>let v6:=x1.getD x3.toNat 0;F128 R x2 v6 fun y7 y8=>
(match (!y8) with
|true=>k0 (0:Int) false
|false=>let v9:=IntKind.i64.wrap (x3+1);kc x1 y7 v9)
|false=>none)
|false=>k1 x2)
theorem q86_3 (F128:ze3) (L3:Ta):LEQ (zm1 L3) (e86 F128 L3) Tryz.f86 (p86_3 F128):=fun _ _ _ _=>by kernel_rfl
def zc7:Nat→Ta
 | 0=>fun _ _ _ _ _ _=>none
 | n+1=>fun R x1 x2 x3 k0 k1=>p86_3 F128 R x1 x2 x3 (fun x1 x2 x3=>zc7 n R x1 x2 x3 k0 k1) k0 k1
def p86 (L3:Ta):FT86:=fun R a0 k=>
L3 R a0 (0:Int) (0:Int) (fun x1 x2=>
k x1 x2) (fun x3=>
k x3 true)
theorem q86 (F128:ze3) (L3:Ta):EQ (en86 (p86 L3)) (e86 F128 L3) Tryz.f86 [(.tmp 2,28,false),(.tmp 3,4,false)]:=fun _ _ _=>by kernel_rfl
def F86:FT86:=p86 (zc7 FUEL)
theorem lok86_3:LKP (zm1 (zc7 FUEL)) 0 27 3 Tryz.f86:=ST.lok (q86_3 F128 (zc7 FUEL)) (Aa ok128 Ab) [] trivial
theorem ok86:OKP (en86 F86):=ST.ok1 (q86 F128 (zc7 FUEL)) (Aa ok128 Ab) Tryz.func86 [3] ⟨⟨_,rfl,lok86_3⟩,trivial⟩
abbrev Sm:=(R:Type)→(List Tq5)→(LI→Option R)→Option R
def zz1 (F:Sm):Ent:=eM 118 [(false,(.sl Kq5))] [(true,(.int .u64))] F
abbrev zva (Z:Type):=(List Tq5)→Int→LI→Z
abbrev E118_3 (R:Type):=(LI→Option R)→Option R
abbrev N0:=(R:Type)→zva (E118_3 R)
def zcb (L:N0):LEnt:=lM 3 [.val 0 (.sl Kq5),.fix 3 (.own 0 0),.val 4 (.int .i64),.row 0 (.int .u64) false] 1 [(.exit 0,[.fix 3 (.own 0 0),.row 0 (.int .u64) false])] L
def e118 (L3:N0):=sE 0 20 [(1,0)] [] [zcb L3]
def zl5 (R:Type):zva (zva (Option R)→E118_3 R):=fun x1 x2 x3 kc k0=>
let v4:=(x1.length:Int);let v5:=decide (x2<v4);(match v5 with
|true=>(match bnd x2 x1.length with
|true=>let v6:=(x1.getD x2.toNat ((List.replicate 32 0),0,0,())).2.2.1;let v7:=([v6]:LI);(match (decide (x3.length+v7.length≤17592186044416)) with
|true=>let v8:=x3++v7;let v9:=IntKind.i64.wrap (x2+1);kc x1 v9 v8
|false=>none)
|false=>none)
|false=>k0 x3)
theorem q118_3 (L3:N0):LEQ (zcb L3) (e118 L3) Tryz.f118 zl5:=fun _ _ _ _=>by kernel_rfl
def Rw:Nat→N0
 | 0=>fun _ _ _ _ _=>none
 | n+1=>fun R x1 x2 x3 k0=>zl5 R x1 x2 x3 (fun x1 x2 x3=>Rw n R x1 x2 x3 k0) k0
def p118 (L3:N0):Sm:=fun R a0 k=>
L3 R a0 (0:Int) ([]:LI) (fun x1=>
k x1)
theorem q118 (L3:N0):EQ (zz1 (p118 L3)) (e118 L3) Tryz.f118 [(.tmp 2,63,true)]:=fun _ _ _=>by kernel_rfl
def F118:Sm:=p118 (Rw FUEL)
theorem zyf:LKP (zcb (Rw FUEL)) 0 20 3 Tryz.f118:=ST.lok (q118_3 (Rw FUEL)) Ab [] trivial
theorem zwn:OKP (zz1 F118):=ST.ok1 (q118 (Rw FUEL)) Ab Tryz.func118 [3] ⟨⟨_,rfl,zyf⟩,trivial⟩
abbrev V3:=(R:Type)→(List Tq5)→(Bool→Option R)→Option R
def zoo (F:V3):Ent:=eV 116 [(.sl Kq5)] [.bool] F
abbrev zvd (Z:Type):=(List Tq5)→Int→Z
abbrev E116_6 (R:Type):=(Bool→Option R)→(Option R)→Option R
abbrev Ki:=(R:Type)→zvd (E116_6 R)
def zce (L:Ki):LEnt:=lM 6 [.val 0 (.sl Kq5),.val 7 (.int .i64)] 0 [(.ret,[.val 2 .bool]),(.exit 0,[])] L
abbrev zvc (Z:Type):=(List Tq5)→Int→Int→Z
abbrev E116_9 (R:Type):=(Bool→Option R)→((List Tq5)→Int→Option R)→Option R
abbrev Kh:=(R:Type)→zvc (E116_9 R)
def zcd (L:Kh):LEnt:=lM 9 [.val 0 (.sl Kq5),.val 7 (.int .i64),.val 8 (.int .i64)] 0 [(.ret,[.val 2 .bool]),(.exit 2,[.val 0 (.sl Kq5),.val 7 (.int .i64)])] L
def e116 (F22:FT22) (F86:FT86) (F118:Sm) (L6:Ki) (L9:Kh):=sE 0 54 [] [en22 F22,en86 F86,zz1 F118] [zce L6,zcd L9]
def zl7 (R:Type):zvc (zvc (Option R)→E116_9 R):=fun x1 x2 x3 kc k0 k1=>
let v4:=decide (x3<x2);(match v4 with
|true=>(match bnd x2 x1.length with
|true=>let v5:=(x1.getD x2.toNat ((List.replicate 32 0),0,0,())).1;(match bnd x3 x1.length with
|true=>let v6:=(x1.getD x3.toNat ((List.replicate 32 0),0,0,())).1;let v7:=Kd.eqv (.arr 32 (.int .u8)) v5 v6;(match v7 with
|true=>k0 false
|false=>let v8:=IntKind.i64.wrap (x3+1);kc x1 x2 v8)
|false=>none)
|false=>none)
|false=>k1 x1 x2)
theorem q116_9 (F22:FT22) (F86:FT86) (F118:Sm) (L6:Ki) (L9:Kh):LEQ (zcd L9) (e116 F22 F86 F118 L6 L9) Tryz.f116 zl7:=fun _ _ _ _=>by kernel_rfl
def O2:Nat→Kh
 | 0=>fun _ _ _ _ _ _=>none
 | n+1=>fun R x1 x2 x3 k0 k1=>zl7 R x1 x2 x3 (fun x1 x2 x3=>O2 n R x1 x2 x3 k0 k1) k0 k1
def zl8 (L9:Kh) (R:Type):zvd (zvd (Option R)→E116_6 R):=fun x1 x2 kc k0 k1=>
let v3:=(x1.length:Int);let v4:=decide (x2<v3);(match v4 with
|true=>L9 R x1 x2 (0:Int) (fun x5=>
k0 x5) (fun x6 x7=>
let v8:=IntKind.i64.wrap (x7+1);kc x6 v8)
|false=>k1)
theorem q116_6 (F22:FT22) (F86:FT86) (F118:Sm) (L6:Ki) (L9:Kh):LEQ (zce L6) (e116 F22 F86 F118 L6 L9) Tryz.f116 (zl8 L9):=fun _ _ _ _=>by kernel_rfl
def Ll:Nat→Ki
 | 0=>fun _ _ _ _ _=>none
 | n+1=>fun R x1 x2 k0 k1=>zl8 (O2 FUEL) R x1 x2 (fun x1 x2=>Ll n R x1 x2 k0 k1) k0 k1
def p116 (F22:FT22) (F86:FT86) (F118:Sm) (L6:Ki):V3:=fun R a0 k=>
F22 R a0 fun y1=>
F86 R y1 fun y2 y3=>
F118 R a0 fun y4=>
F86 R y4 fun y5 y6=>
let v7:=(a0.length:Int);let v8:=decide (v7>1048576);(match v8 with
|true=>k false
|false=>(match (!y3) with
|true=>k false
|false=>(match (!y6) with
|true=>k false
|false=>L6 R a0 (0:Int) (fun x9=>
k x9) (k true))))
theorem q116 (F22:FT22) (F86:FT86) (F118:Sm) (L6:Ki) (L9:Kh):EQ (zoo (p116 F22 F86 F118 L6)) (e116 F22 F86 F118 L6 L9) Tryz.f116 [(.tmp 2,4,false)]:=fun _ _ _=>by kernel_rfl
def F116:V3:=p116 F22 F86 F118 (Ll FUEL)
theorem zyh:LKP (zcd (O2 FUEL)) 0 54 9 Tryz.f116:=ST.lok (q116_9 F22 F86 F118 (Ll FUEL) (O2 FUEL)) (Aa ok22 (Aa ok86 (Aa zwn Ab))) [] trivial
theorem zyi:LKP (zce (Ll FUEL)) 0 54 6 Tryz.f116:=ST.lok (q116_6 F22 F86 F118 (Ll FUEL) (O2 FUEL)) (Aa ok22 (Aa ok86 (Aa zwn Ab))) [9] ⟨⟨_,rfl,zyh⟩,trivial⟩
theorem ok116:OKP (zoo F116):=ST.ok1 (q116 F22 F86 F118 (Ll FUEL) (O2 FUEL)) (Aa ok22 (Aa ok86 (Aa zwn Ab))) Tryz.func116 [6] ⟨⟨_,rfl,zyi⟩,trivial⟩
abbrev zr5:=(R:Type)→(List Tq5)→LI→(Int→Bool→Option R)→Option R
def en117 (F:zr5):Ent:=eV 117 [(.sl Kq5),(.arr 32 (.int .u8))] [(.int .i64),.bool] F
abbrev zvb (Z:Type):=(List Tq5)→Int→LI→Z
abbrev E117_2 (R:Type):=(Int→Bool→Option R)→(Option R)→Option R
abbrev N1:=(R:Type)→zvb (E117_2 R)
def zcc (L:N1):LEnt:=lM 2 [.val 0 (.sl Kq5),.fix 3 (.ptr 0 [] (.arr 32 (.int .u8))),.val 6 (.int .i64),.var 0 (.arr 32 (.int .u8)) false] 1 [(.ret,[.val 4 (.int .i64),.val 5 .bool]),(.exit 0,[])] L
def e117 (L2:N1):=sE 0 21 [] [] [zcc L2]
def zl6 (R:Type):zvb (zvb (Option R)→E117_2 R):=fun x1 x2 x3 kc k0 k1=>
let v4:=(x1.length:Int);let v5:=decide (x2<v4);(match v5 with
|true=>(match bnd x2 x1.length with
|true=>let v6:=(x1.getD x2.toNat ((List.replicate 32 0),0,0,())).1;let v7:=Kd.eqv (.arr 32 (.int .u8)) v6 x3;(match v7 with
|true=>k0 x2 true
|false=>let v8:=IntKind.i64.wrap (x2+1);kc x1 v8 x3)
|false=>none)
|false=>k1)
theorem q117_2 (L2:N1):LEQ (zcc L2) (e117 L2) Tryz.f117 zl6:=fun _ _ _ _=>by kernel_rfl
def Rx:Nat→N1
 | 0=>fun _ _ _ _ _ _=>none
 | n+1=>fun R x1 x2 x3 k0 k1=>zl6 R x1 x2 x3 (fun x1 x2 x3=>Rx n R x1 x2 x3 k0 k1) k0 k1
def p117 (L2:N1):zr5:=fun R a0 a1 k=>
L2 R a0 (0:Int) a1 (fun x1 x2=>
k x1 x2) (k (0:Int) false)
theorem q117 (L2:N1):EQ (en117 (p117 L2)) (e117 L2) Tryz.f117 [(.tmp 4,3,false),(.tmp 5,4,false)]:=fun _ _ _=>by kernel_rfl
def F117:zr5:=p117 (Rx FUEL)
theorem zyg:LKP (zcc (Rx FUEL)) 0 21 2 Tryz.f117:=ST.lok (q117_2 (Rx FUEL)) Ab [] trivial
theorem ok117:OKP (en117 F117):=ST.ok1 (q117 (Rx FUEL)) Ab Tryz.func117 [2] ⟨⟨_,rfl,zyg⟩,trivial⟩
abbrev V2:=(R:Type)→(List Tq5)→Int→Int→((List Tq5)→Option R)→Option R
def zon (F:V2):Ent:=eV 119 [(.sl Kq5),(.int .i64),(.int .u64)] [(.sl Kq5)] F
def p119:V2:=fun R a0 a1 a2 k=>
let v1:=([]:(List Tq5));(match (decide (v1.length+a0.length≤2932031007402)) with
|true=>let v2:=v1++a0;(match bnd a1 v2.length with
|true=>let v3:=v2.set a1.toNat ((v2.getD a1.toNat ((List.replicate 32 0),0,0,())).1,(v2.getD a1.toNat ((List.replicate 32 0),0,0,())).2.1,a2,(v2.getD a1.toNat ((List.replicate 32 0),0,0,())).2.2.2);k v3
|false=>none)
|false=>none)
theorem q119:EQ (zon p119) (sE 0 17 [(1,0)] [] []) Tryz.f119 [(.tmp 6,27,false)]:=fun _ _ _=>by kernel_rfl
def F119:V2:=p119
theorem ok119:OKP (zon F119):=ST.ok0 q119 Ab Tryz.func119
abbrev FT71:=(R:Type)→(List Tq5)→LI→Int→Int→((List Tq5)→Int→Int→Option R)→Option R
def en71 (F:FT71):Ent:=eV 71 [(.sl Kq5),(.arr 32 (.int .u8)),(.int .u64),(.int .i64)] [(.sl Kq5),(.int .i64),(.int .i64)] F
def p71 (F86:FT86) (F116:V3) (F117:zr5) (F118:Sm) (F119:V2):FT71:=fun R a0 a1 a2 a3 k=>
F116 R a0 fun y1=>
(match (!y1) with
|true=>k ([]:(List Tq5)) (0:Int) (1:Int)
|false=>let v2:=a2==0;(match v2 with
|true=>k ([]:(List Tq5)) (0:Int) (1:Int)
|false=>let v3:=decide (a3<1);(match v3 with
|true=>k ([]:(List Tq5)) (0:Int) (1:Int)
|false=>let v4:=decide (a3>1048576);(match v4 with
|true=>k ([]:(List Tq5)) (0:Int) (1:Int)
|false=>F117 R a0 a1 fun y5 y6=>
(match (!y6) with
|true=>let v7:=(a0.length:Int);let v8:=decide (v7≥a3);(match v8 with
|true=>k ([]:(List Tq5)) (0:Int) (4:Int)
|false=>F118 R a0 fun y9=>
let v10:=([a2]:LI);(match (decide (y9.length+v10.length≤17592186044416)) with
|true=>let v11:=y9++v10;F86 R v11 fun y12 y13=>
(match (!y13) with
|true=>k ([]:(List Tq5)) (0:Int) (11:Int)
|false=>(match (!y6) with
|true=>let v14:=([]:(List Tq5));(match (decide (v14.length+a0.length≤2932031007402)) with
|true=>let v15:=v14++a0;let v16:=([(a1,(0:Int),a2,())]:(List Tq5));(match (decide (v15.length+v16.length≤2932031007402)) with
|true=>let v17:=v15++v16;let v18:=(a0.length:Int);k v17 v18 (0:Int)
|false=>none)
|false=>none)
|false=>(match bnd y5 a0.length with
|true=>let v19:=(a0.getD y5.toNat ((List.replicate 32 0),0,0,())).2.2.1;let v20:=IntKind.u64.wrap (v19+a2);F119 R a0 y5 v20 fun y21=>
k y21 y5 (0:Int)
|false=>none)))
|false=>none))
|false=>F118 R a0 fun y22=>
let v23:=([a2]:LI);(match (decide (y22.length+v23.length≤17592186044416)) with
|true=>let v24:=y22++v23;F86 R v24 fun y25 y26=>
(match (!y26) with
|true=>k ([]:(List Tq5)) (0:Int) (11:Int)
|false=>(match (!y6) with
|true=>let v27:=([]:(List Tq5));(match (decide (v27.length+a0.length≤2932031007402)) with
|true=>let v28:=v27++a0;let v29:=([(a1,(0:Int),a2,())]:(List Tq5));(match (decide (v28.length+v29.length≤2932031007402)) with
|true=>let v30:=v28++v29;let v31:=(a0.length:Int);k v30 v31 (0:Int)
|false=>none)
|false=>none)
|false=>(match bnd y5 a0.length with
|true=>let v32:=(a0.getD y5.toNat ((List.replicate 32 0),0,0,())).2.2.1;let v33:=IntKind.u64.wrap (v32+a2);F119 R a0 y5 v33 fun y34=>
k y34 y5 (0:Int)
|false=>none)))
|false=>none))))))
theorem q71 (F86:FT86) (F116:V3) (F117:zr5) (F118:Sm) (F119:V2):EQ (en71 (p71 F86 F116 F117 F118 F119)) (sE 0 78 [(10,0)] [en86 F86,zoo F116,en117 F117,zz1 F118,zon F119] []) Tryz.f71 [(.tmp 8,27,false),(.tmp 9,3,false),(.tmp 10,35,false)]:=fun _ _ _=>by kernel_rfl
def F71:FT71:=p71 F86 F116 F117 F118 F119
theorem ok71:OKP (en71 F71):=ST.ok0 (q71 F86 F116 F117 F118 F119) (Aa ok86 (Aa ok116 (Aa ok117 (Aa zwn (Aa ok119 Ab))))) Tryz.func71
abbrev FT72:=(R:Type)→(List Tq5)→Int→Int→((List Tq5)→Int→Int→Option R)→Option R
def en72 (F:FT72):Ent:=eV 72 [(.sl Kq5),(.int .i64),(.int .u64)] [(.sl Kq5),(.int .u64),(.int .i64)] F
def p72 (F116:V3) (F119:V2):FT72:=fun R a0 a1 a2 k=>
F116 R a0 fun y1=>
(match (!y1) with
|true=>k ([]:(List Tq5)) (0:Int) (1:Int)
|false=>let v2:=a2==0;(match v2 with
|true=>k ([]:(List Tq5)) (0:Int) (1:Int)
|false=>let v3:=decide (a1<0);(match v3 with
|true=>k ([]:(List Tq5)) (0:Int) (5:Int)
|false=>let v4:=(a0.length:Int);let v5:=decide (a1≥v4);(match v5 with
|true=>k ([]:(List Tq5)) (0:Int) (5:Int)
|false=>(match bnd a1 a0.length with
|true=>let v6:=(a0.getD a1.toNat ((List.replicate 32 0),0,0,())).2.2.1;let v7:=decide (a2>v6);(match v7 with
|true=>k ([]:(List Tq5)) (0:Int) (12:Int)
|false=>(match bnd a1 a0.length with
|true=>let v8:=(a0.getD a1.toNat ((List.replicate 32 0),0,0,())).2.2.1;let v9:=IntKind.u64.wrap (v8 - a2);F119 R a0 a1 v9 fun y10=>
(match bnd a1 a0.length with
|true=>let v11:=(a0.getD a1.toNat ((List.replicate 32 0),0,0,())).2.2.1;let v12:=IntKind.u64.wrap (v11 - a2);k y10 v12 (0:Int)
|false=>none)
|false=>none))
|false=>none)))))
theorem q72 (F116:V3) (F119:V2):EQ (en72 (p72 F116 F119)) (sE 0 51 [] [zoo F116,zon F119] []) Tryz.f72 [(.tmp 6,27,false),(.tmp 7,28,false),(.tmp 8,35,false)]:=fun _ _ _=>by kernel_rfl
def F72:FT72:=p72 F116 F119
theorem ok72:OKP (en72 F72):=ST.ok0 (q72 F116 F119) (Aa ok116 (Aa ok119 Ab)) Tryz.func72
abbrev FT73:=(R:Type)→(List Tq5)→Int→Int→((List Tq5)→Int→Int→Option R)→Option R
def en73 (F:FT73):Ent:=eV 73 [(.sl Kq5),(.int .i64),(.int .u64)] [(.sl Kq5),(.int .u64),(.int .i64)] F
def p73 (F116:V3) (F119:V2):FT73:=fun R a0 a1 a2 k=>
F116 R a0 fun y1=>
(match (!y1) with
|true=>k ([]:(List Tq5)) (0:Int) (1:Int)
|false=>let v2:=decide (a1<0);(match v2 with
|true=>k ([]:(List Tq5)) (0:Int) (5:Int)
|false=>let v3:=(a0.length:Int);let v4:=decide (a1≥v3);(match v4 with
|true=>k ([]:(List Tq5)) (0:Int) (5:Int)
|false=>(match bnd a1 a0.length with
|true=>let v5:=(a0.getD a1.toNat ((List.replicate 32 0),0,0,())).2.2.1;let v6:=decide (a2>v5);(match v6 with
|true=>(match bnd a1 a0.length with
|true=>let v7:=(a0.getD a1.toNat ((List.replicate 32 0),0,0,())).2.2.1;(match bnd a1 a0.length with
|true=>let v8:=(a0.getD a1.toNat ((List.replicate 32 0),0,0,())).2.2.1;let v9:=IntKind.u64.wrap (v8 - v7);F119 R a0 a1 v9 fun y10=>
k y10 v7 (0:Int)
|false=>none)
|false=>none)
|false=>(match bnd a1 a0.length with
|true=>let v11:=(a0.getD a1.toNat ((List.replicate 32 0),0,0,())).2.2.1;let v12:=IntKind.u64.wrap (v11 - a2);F119 R a0 a1 v12 fun y13=>
k y13 a2 (0:Int)
|false=>none))
|false=>none))))
theorem q73 (F116:V3) (F119:V2):EQ (en73 (p73 F116 F119)) (sE 0 45 [] [zoo F116,zon F119] []) Tryz.f73 [(.tmp 6,27,false),(.tmp 7,28,false),(.tmp 8,35,false)]:=fun _ _ _=>by kernel_rfl
def F73:FT73:=p73 F116 F119
theorem ok73:OKP (en73 F73):=ST.ok0 (q73 F116 F119) (Aa ok116 (Aa ok119 Ab)) Tryz.func73
abbrev FT35:=(R:Type)→Tq29→Tq13→(Tq29→Tq17→Option R)→Option R
def en35 (F:FT35):Ent:=eV 35 [Kq29,Kq13] [Kq29,Kq17] F
def p35 (F34:FT34) (F71:FT71) (F72:FT72) (F73:FT73):FT35:=fun R a0 a1 k=>
let v1:=a1.1==1;(match v1 with
|true=>F71 R a0.2.2.1 a1.2.2.2.1 a1.2.2.1 a0.1.2.2.2.2.1 fun y2 y3 y4=>
let v5:=IntKind.u64.wrap y3;let v6:=y4 !=0;(match v6 with
|true=>F34 R y4 fun y7=>
k a0 y7
|false=>k (a0.1,a0.2.1,y2,a0.2.2.2) ((0:Int),v5,([]:LI),(List.replicate 32 (0:Int)),()))
|false=>let v8:=a1.1==2;(match v8 with
|true=>F72 R a0.2.2.1 a1.2.1 a1.2.2.1 fun y9 y10 y11=>
let v12:=y11 !=0;(match v12 with
|true=>F34 R y11 fun y13=>
k a0 y13
|false=>k (a0.1,a0.2.1,y9,a0.2.2.2) ((0:Int),y10,([]:LI),(List.replicate 32 (0:Int)),()))
|false=>F73 R a0.2.2.1 a1.2.1 a1.2.2.1 fun y14 y15 y16=>
let v17:=y16 !=0;(match v17 with
|true=>F34 R y16 fun y18=>
k a0 y18
|false=>k (a0.1,a0.2.1,y14,a0.2.2.2) ((0:Int),y15,([]:LI),(List.replicate 32 (0:Int)),()))))
theorem q35 (F34:FT34) (F71:FT71) (F72:FT72) (F73:FT73):EQ (en35 (p35 F34 F71 F72 F73)) (sE 0 68 [] [en34 F34,en71 F71,en72 F72,en73 F73] []) Tryz.f35 [(.cell 4 34,34,false),(.cell 5 44,44,false)]:=fun _ _ _=>by kernel_rfl
def F35:FT35:=p35 F34 F71 F72 F73
theorem ok35:OKP (en35 F35):=ST.ok0 (q35 F34 F71 F72 F73) (Aa ok34 (Aa ok71 (Aa ok72 (Aa ok73 Ab)))) Tryz.func35
abbrev FT74:=(R:Type)→Tq29→Int→(Bool→Option R)→Option R
def en74 (F:FT74):Ent:=eV 74 [Kq29,(.int .i64)] [.bool] F
def p74:FT74:=fun R a0 a1 k=>
let v1:=decide (a1≥0);(match v1 with
|true=>let v2:=(a0.2.2.1.length:Int);let v3:=decide (a1<v2);k v3
|false=>k false)
theorem q74:EQ (en74 p74) (sE 0 14 [] [] []) Tryz.f74 [(.tmp 4,4,false)]:=fun _ _ _=>by kernel_rfl
def F74:FT74:=p74
theorem ok74:OKP (en74 F74):=ST.ok0 q74 Ab Tryz.func74
abbrev FT75:=(R:Type)→Tq21→Int→(Int→Option R)→Option R
def en75 (F:FT75):Ent:=eV 75 [Kq21,(.int .i64)] [(.int .i64)] F
def p75 (F28:FT28):FT75:=fun R a0 a1 k=>
F28 R a0 fun y1=>
(match (!y1) with
|true=>k (0:Int)
|false=>let v2:=decide (a1<0);(match v2 with
|true=>k (0:Int)
|false=>let v3:=decide (a1≥a0.1);(match v3 with
|true=>k (0:Int)
|false=>let v4:=decide (a1<a0.2.1);(match v4 with
|true=>k (1:Int)
|false=>let v5:=IntKind.i64.wrap (a0.2.1+a0.2.2.1);let v6:=decide (a1<v5);(match v6 with
|true=>k (2:Int)
|false=>k (3:Int))))))
theorem q75 (F28:FT28):EQ (en75 (p75 F28)) (sE 0 32 [] [en28 F28] []) Tryz.f75 [(.tmp 4,3,false)]:=fun _ _ _=>by kernel_rfl
def F75:FT75:=p75 F28
theorem ok75:OKP (en75 F75):=ST.ok0 (q75 F28) (Aa ok28 Ab) Tryz.func75
abbrev R5:=(R:Type)→(List Tq3)→(Bool→Option R)→Option R
def zof (F:R5):Ent:=eV 167 [(.sl Kq3)] [.bool] F
abbrev zur (Z:Type):=(List Tq3)→Int→Z
abbrev E167_2 (R:Type):=(Bool→Option R)→(Option R)→Option R
abbrev Nk:=(R:Type)→zur (E167_2 R)
def zbs (L:Nk):LEnt:=lM 2 [.val 0 (.sl Kq3),.val 3 (.int .i64)] 0 [(.ret,[.val 2 .bool]),(.exit 0,[])] L
def e167 (F23:FT23) (L2:Nk):=sE 0 56 [] [en23 F23] [zbs L2]
def zlo (F23:FT23) (R:Type):zur (zur (Option R)→E167_2 R):=fun x1 x2 kc k0 k1=>
let v3:=(x1.length:Int);let v4:=decide (x2<v3);(match v4 with
|true=>(match bnd x2 x1.length with
|true=>let v5:=x1.getD x2.toNat (0,(List.replicate 32 0),false,(List.replicate 32 0),());let v6:=decide (v5.1<0);(match v6 with
|true=>k0 false
|false=>let v7:=decide (x2>0);(match v7 with
|true=>let v8:=IntKind.i64.wrap (x2 - 1);(match bnd v8 x1.length with
|true=>let v9:=(x1.getD v8.toNat (0,(List.replicate 32 0),false,(List.replicate 32 0),())).1;let v10:=decide (v9≥v5.1);(match v10 with
|true=>k0 false
|false=>(match v5.2.2.1 with
|true=>F23 R v5.2.2.2.1 fun y11=>
let v12:= !(Kd.eqv (.arr 32 (.int .u8)) y11 v5.2.1);(match v12 with
|true=>k0 false
|false=>let v13:= !v5.2.2.1;(match v13 with
|true=>let v14:=List.replicate 32 (0:Int);let v15:= !(Kd.eqv (.arr 32 (.int .u8)) v5.2.2.2.1 v14);(match v15 with
|true=>k0 false
|false=>let v16:=IntKind.i64.wrap (x2+1);kc x1 v16)
|false=>let v17:=IntKind.i64.wrap (x2+1);kc x1 v17))
|false=>let v18:= !v5.2.2.1;(match v18 with
|true=>let v19:=List.replicate 32 (0:Int);let v20:= !(Kd.eqv (.arr 32 (.int .u8)) v5.2.2.2.1 v19);(match v20 with
|true=>k0 false
|false=>let v21:=IntKind.i64.wrap (x2+1);kc x1 v21)
|false=>let v22:=IntKind.i64.wrap (x2+1);kc x1 v22)))
|false=>none)
|false=>(match v5.2.2.1 with
|true=>F23 R v5.2.2.2.1 fun y23=>
let v24:= !(Kd.eqv (.arr 32 (.int .u8)) y23 v5.2.1);(match v24 with
|true=>k0 false
|false=>let v25:= !v5.2.2.1;(match v25 with
|true=>let v26:=List.replicate 32 (0:Int);let v27:= !(Kd.eqv (.arr 32 (.int .u8)) v5.2.2.2.1 v26);(match v27 with
|true=>k0 false
|false=>let v28:=IntKind.i64.wrap (x2+1);kc x1 v28)
|false=>let v29:=IntKind.i64.wrap (x2+1);kc x1 v29))
|false=>let v30:= !v5.2.2.1;(match v30 with
|true=>let v31:=List.replicate 32 (0:Int);let v32:= !(Kd.eqv (.arr 32 (.int .u8)) v5.2.2.2.1 v31);(match v32 with
|true=>k0 false
|false=>let v33:=IntKind.i64.wrap (x2+1);kc x1 v33)
|false=>let v34:=IntKind.i64.wrap (x2+1);kc x1 v34))))
|false=>none)
|false=>k1)
theorem q167_2 (F23:FT23) (L2:Nk):LEQ (zbs L2) (e167 F23 L2) Tryz.f167 (zlo F23):=fun _ _ _ _=>by kernel_rfl
def Hp:Nat→Nk
 | 0=>fun _ _ _ _ _=>none
 | n+1=>fun R x1 x2 k0 k1=>zlo F23 R x1 x2 (fun x1 x2=>Hp n R x1 x2 k0 k1) k0 k1
def p167 (L2:Nk):R5:=fun R a0 k=>
L2 R a0 (0:Int) (fun x1=>
k x1) (k true)
theorem q167 (F23:FT23) (L2:Nk):EQ (zof (p167 L2)) (e167 F23 L2) Tryz.f167 [(.tmp 2,4,false)]:=fun _ _ _=>by kernel_rfl
def F167:R5:=p167 (Hp FUEL)
theorem zxv:LKP (zbs (Hp FUEL)) 0 56 2 Tryz.f167:=ST.lok (q167_2 F23 (Hp FUEL)) (Aa ok23 Ab) [] trivial
theorem zwi:OKP (zof F167):=ST.ok1 (q167 F23 (Hp FUEL)) (Aa ok23 Ab) Tryz.func167 [2] ⟨⟨_,rfl,zxv⟩,trivial⟩
abbrev zes:=(R:Type)→(List LI)→(LI→Option R)→Option R
def en169 (F:zes):Ent:=eV 169 [(.sl (.arr 32 (.int .u8)))] [(.arr 32 (.int .u8))] F
abbrev zup (Z:Type):=(List LI)→Int→LI→LI→Z
abbrev E169_3 (R:Type):=(LI→LI→Option R)→Option R
abbrev Kb:=(R:Type)→zup (E169_3 R)
def zbq (L:Kb):LEnt:=lM 3 [.val 0 (.sl (.arr 32 (.int .u8))),.fix 2 (.ptr 0 [] (.arr 32 (.int .u8))),.fix 3 (.ptr 1 [] (.arr 32 (.int .u8))),.val 4 (.int .i64),.var 0 (.arr 32 (.int .u8)) false,.var 1 (.arr 32 (.int .u8)) false] 2 [(.exit 0,[.fix 2 (.ptr 0 [] (.arr 32 (.int .u8))),.fix 3 (.ptr 1 [] (.arr 32 (.int .u8))),.var 0 (.arr 32 (.int .u8)) false,.var 1 (.arr 32 (.int .u8)) false])] L
abbrev zuo (Z:Type):=(List LI)→Int→Int→LI→LI→Z
abbrev E169_6 (R:Type):=((List LI)→Int→LI→LI→Option R)→Option R
abbrev Ka:=(R:Type)→zuo (E169_6 R)
def zbp (L:Ka):LEnt:=lM 6 [.val 0 (.sl (.arr 32 (.int .u8))),.fix 2 (.ptr 0 [] (.arr 32 (.int .u8))),.fix 3 (.ptr 1 [] (.arr 32 (.int .u8))),.val 4 (.int .i64),.val 5 (.int .i64),.var 0 (.arr 32 (.int .u8)) false,.var 1 (.arr 32 (.int .u8)) false] 2 [(.exit 2,[.val 0 (.sl (.arr 32 (.int .u8))),.fix 2 (.ptr 0 [] (.arr 32 (.int .u8))),.fix 3 (.ptr 1 [] (.arr 32 (.int .u8))),.val 4 (.int .i64),.var 0 (.arr 32 (.int .u8)) false,.var 1 (.arr 32 (.int .u8)) false])] L
def e169 (L3:Kb) (L6:Ka):=sE 0 29 [] [] [zbq L3,zbp L6]
def zgl (R:Type):zuo (zuo (Option R)→E169_6 R):=fun x1 x2 x3 x4 x5 kc k0=>
let v6:=decide (x3<32);(match v6 with
|true=>(match (bnd x3 (32:Int)) with
|true=>let v7:=x5.getD x3.toNat 0;(match bnd x2 x1.length with
|true=>(match (bnd x3 (32:Int)) with
|true=>let v8:=List.getD (x1.getD x2.toNat (List.replicate 32 0)) x3.toNat (0:Int);let v9:=ixor .u8 v7 v8;(match (bnd x3 (32:Int)) with
|true=>let v10:=x5.set x3.toNat v9;let v11:=IntKind.i64.wrap (x3+1);kc x1 x2 v11 x4 v10
|false=>none)
|false=>none)
|false=>none)
|false=>none)
|false=>k0 x1 x2 x4 x5)
theorem q169_6 (L3:Kb) (L6:Ka):LEQ (zbp L6) (e169 L3 L6) Tryz.f169 zgl:=fun _ _ _ _=>by kernel_rfl
def Lh:Nat→Ka
 | 0=>fun _ _ _ _ _ _ _=>none
 | n+1=>fun R x1 x2 x3 x4 x5 k0=>zgl R x1 x2 x3 x4 x5 (fun x1 x2 x3 x4 x5=>Lh n R x1 x2 x3 x4 x5 k0) k0
def zlm (L6:Ka) (R:Type):zup (zup (Option R)→E169_3 R):=fun x1 x2 x3 x4 kc k0=>
let v5:=(x1.length:Int);let v6:=decide (x2<v5);(match v6 with
|true=>L6 R x1 x2 (0:Int) x3 x4 (fun x7 x8 x9 x10=>
let v11:=IntKind.i64.wrap (x8+1);kc x7 v11 x9 x10)
|false=>k0 x3 x4)
theorem q169_3 (L3:Kb) (L6:Ka):LEQ (zbq L3) (e169 L3 L6) Tryz.f169 (zlm L6):=fun _ _ _ _=>by kernel_rfl
def O0:Nat→Kb
 | 0=>fun _ _ _ _ _ _=>none
 | n+1=>fun R x1 x2 x3 x4 k0=>zlm (Lh FUEL) R x1 x2 x3 x4 (fun x1 x2 x3 x4=>O0 n R x1 x2 x3 x4 k0) k0
def p169 (L3:Kb):zes:=fun R a0 k=>
L3 R a0 (0:Int) (List.replicate 32 (0:Int)) (List.replicate 32 (0:Int)) (fun x1 x2=>
k x2)
theorem q169 (L3:Kb) (L6:Ka):EQ (en169 (p169 L3)) (e169 L3 L6) Tryz.f169 [(.cell 2 25,25,false)]:=fun _ _ _=>by kernel_rfl
def F169:zes:=p169 (O0 FUEL)
theorem zxs:LKP (zbp (Lh FUEL)) 0 29 6 Tryz.f169:=ST.lok (q169_6 (O0 FUEL) (Lh FUEL)) Ab [] trivial
theorem zxt:LKP (zbq (O0 FUEL)) 0 29 3 Tryz.f169:=ST.lok (q169_3 (O0 FUEL) (Lh FUEL)) Ab [6] ⟨⟨_,rfl,zxs⟩,trivial⟩
theorem ok169:OKP (en169 F169):=ST.ok1 (q169 (O0 FUEL) (Lh FUEL)) Ab Tryz.func169 [3] ⟨⟨_,rfl,zxt⟩,trivial⟩
abbrev ze4:=(R:Type)→(List Tq3)→(LI→Option R)→Option R
def zz0 (F:ze4):Ent:=eV 123 [(.sl Kq3)] [(.arr 32 (.int .u8))] F
abbrev zu8 (Z:Type):=(List Tq3)→Int→LI→(List LI)→Z
abbrev E123_3 (R:Type):=(LI→(List LI)→Option R)→Option R
abbrev Ny:=(R:Type)→zu8 (E123_3 R)
def zb9 (L:Ny):LEnt:=lM 3 [.val 0 (.sl Kq3),.fix 2 (.ptr 0 [] (.arr 32 (.int .u8))),.fix 3 (.own 1 0),.val 4 (.int .i64),.var 0 (.arr 32 (.int .u8)) false,.row 1 (.arr 32 (.int .u8)) false] 2 [(.exit 0,[.fix 2 (.ptr 0 [] (.arr 32 (.int .u8))),.fix 3 (.own 1 0),.var 0 (.arr 32 (.int .u8)) false,.row 1 (.arr 32 (.int .u8)) false])] L
def e123 (F169:zes) (L3:Ny):=sE 0 26 [(1,0)] [en169 F169] [zb9 L3]
def zl3 (R:Type):zu8 (zu8 (Option R)→E123_3 R):=fun x1 x2 x3 x4 kc k0=>
let v5:=(x1.length:Int);let v6:=decide (x2<v5);(match v6 with
|true=>(match bnd x2 x1.length with
|true=>let v7:=(x1.getD x2.toNat (0,(List.replicate 32 0),false,(List.replicate 32 0),())).2.2.1;(match v7 with
|true=>(match bnd x2 x1.length with
|true=>let v8:=(x1.getD x2.toNat (0,(List.replicate 32 0),false,(List.replicate 32 0),())).2.2.2.1;let v9:=([v8]:(List LI));(match (decide (x4.length+v9.length≤4398046511104)) with
|true=>let v10:=x4++v9;let v11:=IntKind.i64.wrap (x2+1);kc x1 v11 x3 v10
|false=>none)
|false=>none)
|false=>let v12:=IntKind.i64.wrap (x2+1);kc x1 v12 x3 x4)
|false=>none)
|false=>k0 x3 x4)
theorem q123_3 (F169:zes) (L3:Ny):LEQ (zb9 L3) (e123 F169 L3) Tryz.f123 zl3:=fun _ _ _ _=>by kernel_rfl
def Ru:Nat→Ny
 | 0=>fun _ _ _ _ _ _=>none
 | n+1=>fun R x1 x2 x3 x4 k0=>zl3 R x1 x2 x3 x4 (fun x1 x2 x3 x4=>Ru n R x1 x2 x3 x4 k0) k0
def p123 (F169:zes) (L3:Ny):ze4:=fun R a0 k=>
L3 R a0 (0:Int) (List.replicate 32 (0:Int)) ([]:(List LI)) (fun x1 x2=>
F169 R x2 fun y3=>
k y3)
theorem q123 (F169:zes) (L3:Ny):EQ (zz0 (p123 F169 L3)) (e123 F169 L3) Tryz.f123 [(.cell 2 25,25,false)]:=fun _ _ _=>by kernel_rfl
def F123:ze4:=p123 F169 (Ru FUEL)
theorem zyd:LKP (zb9 (Ru FUEL)) 0 26 3 Tryz.f123:=ST.lok (q123_3 F169 (Ru FUEL)) (Aa ok169 Ab) [] trivial
theorem ok123:OKP (zz0 F123):=ST.ok1 (q123 F169 (Ru FUEL)) (Aa ok169 Ab) Tryz.func123 [3] ⟨⟨_,rfl,zyd⟩,trivial⟩
abbrev V1:=(R:Type)→Tq24→(Bool→Option R)→Option R
def zom (F:V1):Ent:=eV 120 [Kq24] [.bool] F
def p120 (F123:ze4) (F167:R5):V1:=fun R a0 k=>
F167 R a0.2.2.2.1 fun y1=>
(match y1 with
|true=>F123 R a0.2.2.2.1 fun y2=>
let v3:=Kd.eqv (.arr 32 (.int .u8)) a0.2.2.1 y2;k v3
|false=>k false)
theorem q120 (F123:ze4) (F167:R5):EQ (zom (p120 F123 F167)) (sE 0 14 [] [zz0 F123,zof F167] []) Tryz.f120 [(.tmp 2,4,false)]:=fun _ _ _=>by kernel_rfl
def F120:V1:=p120 F123 F167
theorem ok120:OKP (zom F120):=ST.ok0 (q120 F123 F167) (Aa ok123 (Aa zwi Ab)) Tryz.func120
abbrev Vy:=(R:Type)→(List Tq3)→Int→(Int→Option R)→Option R
def zzr (F:Vy):Ent:=eV 168 [(.sl Kq3),(.int .i64)] [(.int .i64)] F
abbrev zuq (Z:Type):=(List Tq3)→Int→Int→Z
abbrev E168_2 (R:Type):=(Int→Option R)→(Option R)→Option R
abbrev Nj:=(R:Type)→zuq (E168_2 R)
def zbr (L:Nj):LEnt:=lM 2 [.val 0 (.sl Kq3),.val 1 (.int .i64),.val 5 (.int .i64)] 0 [(.ret,[.val 4 (.int .i64)]),(.exit 0,[])] L
def e168 (L2:Nj):=sE 0 20 [] [] [zbr L2]
def zln (R:Type):zuq (zuq (Option R)→E168_2 R):=fun x1 x2 x3 kc k0 k1=>
let v4:=(x1.length:Int);let v5:=decide (x3<v4);(match v5 with
|true=>(match bnd x3 x1.length with
|true=>let v6:=(x1.getD x3.toNat (0,(List.replicate 32 0),false,(List.replicate 32 0),())).1;let v7:=v6==x2;(match v7 with
|true=>k0 x3
|false=>let v8:=IntKind.i64.wrap (x3+1);kc x1 x2 v8)
|false=>none)
|false=>k1)
theorem q168_2 (L2:Nj):LEQ (zbr L2) (e168 L2) Tryz.f168 zln:=fun _ _ _ _=>by kernel_rfl
def Ri:Nat→Nj
 | 0=>fun _ _ _ _ _ _=>none
 | n+1=>fun R x1 x2 x3 k0 k1=>zln R x1 x2 x3 (fun x1 x2 x3=>Ri n R x1 x2 x3 k0 k1) k0 k1
def p168 (L2:Nj):Vy:=fun R a0 a1 k=>
L2 R a0 a1 (0:Int) (fun x1=>
k x1) (k (-1:Int))
theorem q168 (L2:Nj):EQ (zzr (p168 L2)) (e168 L2) Tryz.f168 [(.tmp 4,3,false)]:=fun _ _ _=>by kernel_rfl
def F168:Vy:=p168 (Ri FUEL)
theorem zxu:LKP (zbr (Ri FUEL)) 0 20 2 Tryz.f168:=ST.lok (q168_2 (Ri FUEL)) Ab [] trivial
theorem ok168:OKP (zzr F168):=ST.ok1 (q168 (Ri FUEL)) Ab Tryz.func168 [2] ⟨⟨_,rfl,zxu⟩,trivial⟩
abbrev zr4:=(R:Type)→(List Tq3)→Int→LI→((List Tq3)→Int→Option R)→Option R
def en121 (F:zr4):Ent:=eV 121 [(.sl Kq3),(.int .i64),(.arr 32 (.int .u8))] [(.sl Kq3),(.int .i64)] F
abbrev zu9 (Z:Type):=(List Tq3)→Int→Int→LI→(List Tq3)→Z
abbrev E121_7 (R:Type):=((List Tq3)→Int→Int→LI→(List Tq3)→Option R)→Option R
abbrev Nz:=(R:Type)→zu9 (E121_7 R)
def zca (L:Nz):LEnt:=lM 7 [.val 0 (.sl Kq3),.val 1 (.int .i64),.fix 5 (.ptr 0 [] (.arr 32 (.int .u8))),.fix 8 (.own 1 0),.val 9 (.int .i64),.var 0 (.arr 32 (.int .u8)) false,.row 1 Kq3 false] 2 [(.exit 0,[.val 0 (.sl Kq3),.val 1 (.int .i64),.fix 5 (.ptr 0 [] (.arr 32 (.int .u8))),.fix 8 (.own 1 0),.val 9 (.int .i64),.var 0 (.arr 32 (.int .u8)) false,.row 1 Kq3 false])] L
def e121 (F167:R5) (F168:Vy) (L7:Nz):=sE 0 53 [(5,0)] [zof F167,zzr F168] [zca L7]
def zl4 (R:Type):zu9 (zu9 (Option R)→E121_7 R):=fun x1 x2 x3 x4 x5 kc k0=>
let v6:=(x1.length:Int);let v7:=decide (x3<v6);(match v7 with
|true=>(match bnd x3 x1.length with
|true=>let v8:=(x1.getD x3.toNat (0,(List.replicate 32 0),false,(List.replicate 32 0),())).1;let v9:=decide (v8<x2);(match v9 with
|true=>(match bnd x3 x1.length with
|true=>let v10:=x1.getD x3.toNat (0,(List.replicate 32 0),false,(List.replicate 32 0),());let v11:=([v10]:(List Tq3));(match (decide (x5.length+v11.length≤1759218604441)) with
|true=>let v12:=x5++v11;let v13:=IntKind.i64.wrap (x3+1);kc x1 x2 v13 x4 v12
|false=>none)
|false=>none)
|false=>k0 x1 x2 x3 x4 x5)
|false=>none)
|false=>k0 x1 x2 x3 x4 x5)
theorem q121_7 (F167:R5) (F168:Vy) (L7:Nz):LEQ (zca L7) (e121 F167 F168 L7) Tryz.f121 zl4:=fun _ _ _ _=>by kernel_rfl
def Rv:Nat→Nz
 | 0=>fun _ _ _ _ _ _ _=>none
 | n+1=>fun R x1 x2 x3 x4 x5 k0=>zl4 R x1 x2 x3 x4 x5 (fun x1 x2 x3 x4 x5=>Rv n R x1 x2 x3 x4 x5 k0) k0
def p121 (F167:R5) (F168:Vy) (L7:Nz):zr4:=fun R a0 a1 a2 k=>
F167 R a0 fun y1=>
(match (!y1) with
|true=>k ([]:(List Tq3)) (1:Int)
|false=>let v2:=decide (a1<0);(match v2 with
|true=>k ([]:(List Tq3)) (1:Int)
|false=>F168 R a0 a1 fun y3=>
let v4:=decide (y3≥0);(match v4 with
|true=>k ([]:(List Tq3)) (6:Int)
|false=>L7 R a0 a1 (0:Int) a2 ([]:(List Tq3)) (fun x5 x6 x7 x8 x9=>
let v10:=([(x6,x8,false,(List.replicate 32 (0:Int)),())]:(List Tq3));(match (decide (x9.length+v10.length≤1759218604441)) with
|true=>let v11:=x9++v10;(match (decide (0≤x7∧x7≤(x5.length:Int)∧(x5.length:Int)≤(x5.length:Int)∧(x5.length:Int)≤(x5.length:Int))) with
|true=>let v12:=List.take (Int.toNat ((x5.length:Int) - x7)) (List.drop x7.toNat x5);(match (decide (v11.length+v12.length≤1759218604441)) with
|true=>let v13:=v11++v12;k v13 (0:Int)
|false=>none)
|false=>none)
|false=>none)))))
theorem q121 (F167:R5) (F168:Vy) (L7:Nz):EQ (en121 (p121 F167 F168 L7)) (e121 F167 F168 L7) Tryz.f121 [(.tmp 6,29,false),(.tmp 7,35,false)]:=fun _ _ _=>by kernel_rfl
def F121:zr4:=p121 F167 F168 (Rv FUEL)
theorem zye:LKP (zca (Rv FUEL)) 0 53 7 Tryz.f121:=ST.lok (q121_7 F167 F168 (Rv FUEL)) (Aa zwi (Aa ok168 Ab)) [] trivial
theorem ok121:OKP (en121 F121):=ST.ok1 (q121 F167 F168 (Rv FUEL)) (Aa zwi (Aa ok168 Ab)) Tryz.func121 [7] ⟨⟨_,rfl,zye⟩,trivial⟩
abbrev FT76:=(R:Type)→Tq24→Int→Int→LI→(Tq24→Int→Option R)→Option R
def en76 (F:FT76):Ent:=eV 76 [Kq24,(.int .i64),(.int .i64),(.arr 32 (.int .u8))] [Kq24,(.int .i64)] F
def p76 (F120:V1) (F121:zr4):FT76:=fun R a0 a1 a2 a3 k=>
F120 R a0 fun y1=>
(match (!y1) with
|true=>k ((0:Int),(List.replicate 32 (0:Int)),(List.replicate 32 (0:Int)),([]:(List Tq3)),()) (1:Int)
|false=>let v2:=a1 !=1;(match v2 with
|true=>k ((0:Int),(List.replicate 32 (0:Int)),(List.replicate 32 (0:Int)),([]:(List Tq3)),()) (7:Int)
|false=>F121 R a0.2.2.2.1 a2 a3 fun y3 y4=>
let v5:=y4 !=0;(match v5 with
|true=>k ((0:Int),(List.replicate 32 (0:Int)),(List.replicate 32 (0:Int)),([]:(List Tq3)),()) y4
|false=>k (a0.1,a0.2.1,a0.2.2.1,y3,a0.2.2.2.2) (0:Int))))
theorem q76 (F120:V1) (F121:zr4):EQ (en76 (p76 F120 F121)) (sE 0 34 [] [zom F120,en121 F121] []) Tryz.f76 [(.cell 8 31,31,false),(.tmp 9,35,false)]:=fun _ _ _=>by kernel_rfl
def F76:FT76:=p76 F120 F121
theorem ok76:OKP (en76 F76):=ST.ok0 (q76 F120 F121) (Aa ok120 (Aa ok121 Ab)) Tryz.func76
abbrev zr3:=(R:Type)→(List Tq3)→Int→LI→((List Tq3)→Int→Option R)→Option R
def en122 (F:zr3):Ent:=eV 122 [(.sl Kq3),(.int .i64),(.arr 32 (.int .u8))] [(.sl Kq3),(.int .i64)] F
def p122 (F23:FT23) (F167:R5) (F168:Vy):zr3:=fun R a0 a1 a2 k=>
F167 R a0 fun y1=>
(match (!y1) with
|true=>k ([]:(List Tq3)) (1:Int)
|false=>F168 R a0 a1 fun y2=>
let v3:=decide (y2<0);(match v3 with
|true=>k ([]:(List Tq3)) (5:Int)
|false=>(match bnd y2 a0.length with
|true=>let v4:=(a0.getD y2.toNat (0,(List.replicate 32 0),false,(List.replicate 32 0),())).2.2.1;(match v4 with
|true=>k ([]:(List Tq3)) (6:Int)
|false=>F23 R a2 fun y5=>
(match bnd y2 a0.length with
|true=>let v6:=(a0.getD y2.toNat (0,(List.replicate 32 0),false,(List.replicate 32 0),())).2.1;let v7:= !(Kd.eqv (.arr 32 (.int .u8)) y5 v6);(match v7 with
|true=>k ([]:(List Tq3)) (13:Int)
|false=>let v8:=([]:(List Tq3));(match (decide (v8.length+a0.length≤1759218604441)) with
|true=>let v9:=v8++a0;(match bnd y2 v9.length with
|true=>let v10:=v9.set y2.toNat ((v9.getD y2.toNat (0,(List.replicate 32 0),false,(List.replicate 32 0),())).1,(v9.getD y2.toNat (0,(List.replicate 32 0),false,(List.replicate 32 0),())).2.1,true,(v9.getD y2.toNat (0,(List.replicate 32 0),false,(List.replicate 32 0),())).2.2.2);(match bnd y2 v10.length with
|true=>let v11:=v10.set y2.toNat ((v10.getD y2.toNat (0,(List.replicate 32 0),false,(List.replicate 32 0),())).1,(v10.getD y2.toNat (0,(List.replicate 32 0),false,(List.replicate 32 0),())).2.1,(v10.getD y2.toNat (0,(List.replicate 32 0),false,(List.replicate 32 0),())).2.2.1,a2,(v10.getD y2.toNat (0,(List.replicate 32 0),false,(List.replicate 32 0),())).2.2.2.2);k v11 (0:Int)
|false=>none)
|false=>none)
|false=>none))
|false=>none))
|false=>none)))
theorem q122 (F23:FT23) (F167:R5) (F168:Vy):EQ (en122 (p122 F23 F167 F168)) (sE 0 47 [(10,0)] [en23 F23,zof F167,zzr F168] []) Tryz.f122 [(.tmp 6,29,false),(.tmp 7,35,false)]:=fun _ _ _=>by kernel_rfl
def F122:zr3:=p122 F23 F167 F168
theorem ok122:OKP (en122 F122):=ST.ok0 (q122 F23 F167 F168) (Aa ok23 (Aa zwi (Aa ok168 Ab))) Tryz.func122
abbrev FT77:=(R:Type)→Tq24→Int→Int→LI→(Tq24→Int→Option R)→Option R
def en77 (F:FT77):Ent:=eV 77 [Kq24,(.int .i64),(.int .i64),(.arr 32 (.int .u8))] [Kq24,(.int .i64)] F
def p77 (F120:V1) (F122:zr3) (F123:ze4):FT77:=fun R a0 a1 a2 a3 k=>
F120 R a0 fun y1=>
(match (!y1) with
|true=>k ((0:Int),(List.replicate 32 (0:Int)),(List.replicate 32 (0:Int)),([]:(List Tq3)),()) (1:Int)
|false=>let v2:=a1 !=2;(match v2 with
|true=>k ((0:Int),(List.replicate 32 (0:Int)),(List.replicate 32 (0:Int)),([]:(List Tq3)),()) (7:Int)
|false=>F122 R a0.2.2.2.1 a2 a3 fun y3 y4=>
let v5:=y4 !=0;(match v5 with
|true=>k ((0:Int),(List.replicate 32 (0:Int)),(List.replicate 32 (0:Int)),([]:(List Tq3)),()) y4
|false=>F123 R y3 fun y6=>
k (a0.1,a0.2.1,y6,y3,a0.2.2.2.2) (0:Int))))
theorem q77 (F120:V1) (F122:zr3) (F123:ze4):EQ (en77 (p77 F120 F122 F123)) (sE 0 37 [] [zom F120,en122 F122,zz0 F123] []) Tryz.f77 [(.cell 8 31,31,false),(.tmp 9,35,false)]:=fun _ _ _=>by kernel_rfl
def F77:FT77:=p77 F120 F122 F123
theorem ok77:OKP (en77 F77):=ST.ok0 (q77 F120 F122 F123) (Aa ok120 (Aa ok122 (Aa ok123 Ab))) Tryz.func77
abbrev FT36:=(R:Type)→Tq29→Tq13→(Tq29→Tq17→Option R)→Option R
def en36 (F:FT36):Ent:=eV 36 [Kq29,Kq13] [Kq29,Kq17] F
def p36 (F34:FT34) (F74:FT74) (F75:FT75) (F76:FT76) (F77:FT77):FT36:=fun R a0 a1 k=>
F74 R a0 a1.2.1 fun y1=>
(match (!y1) with
|true=>F34 R (5:Int) fun y2=>
k a0 y2
|false=>F75 R a0.1 a0.2.1 fun y3=>
F76 R a0.2.2.2.1 y3 a1.2.1 a1.2.2.2.1 fun y4 y5=>
let v6:=a1.1==5;(match v6 with
|true=>F77 R a0.2.2.2.1 y3 a1.2.1 a1.2.2.2.1 fun y7 y8=>
let v9:=y8 !=0;(match v9 with
|true=>F34 R y8 fun y10=>
k a0 y10
|false=>k (a0.1,a0.2.1,a0.2.2.1,y7,a0.2.2.2.2) ((0:Int),(0:Int),([]:LI),(List.replicate 32 (0:Int)),()))
|false=>let v11:=y5 !=0;(match v11 with
|true=>F34 R y5 fun y12=>
k a0 y12
|false=>k (a0.1,a0.2.1,a0.2.2.1,y4,a0.2.2.2.2) ((0:Int),(0:Int),([]:LI),(List.replicate 32 (0:Int)),()))))
theorem q36 (F34:FT34) (F74:FT74) (F75:FT75) (F76:FT76) (F77:FT77):EQ (en36 (p36 F34 F74 F75 F76 F77)) (sE 0 55 [] [en34 F34,en74 F74,en75 F75,en76 F76,en77 F77] []) Tryz.f36 [(.cell 4 34,34,false),(.cell 5 44,44,false)]:=fun _ _ _=>by kernel_rfl
def F36:FT36:=p36 F34 F74 F75 F76 F77
theorem ok36:OKP (en36 F36):=ST.ok0 (q36 F34 F74 F75 F76 F77) (Aa ok34 (Aa ok74 (Aa ok75 (Aa ok76 (Aa ok77 Ab))))) Tryz.func36
abbrev FT78:=(R:Type)→Tq21→Int→(Int→Bool→Option R)→Option R
def en78 (F:FT78):Ent:=eV 78 [Kq21,(.int .i64)] [(.int .i64),.bool] F
def p78 (F75:FT75):FT78:=fun R a0 a1 k=>
F75 R a0 a1 fun y1=>
let v2:=y1==0;(match v2 with
|true=>k (0:Int) false
|false=>let v3:=IntKind.i64.wrap (a0.1 - 1);let v4:=a1==v3;(match v4 with
|true=>k (0:Int) true
|false=>let v5:=IntKind.i64.wrap (a1+1);k v5 false))
theorem q78 (F75:FT75):EQ (en78 (p78 F75)) (sE 0 17 [] [en75 F75] []) Tryz.f78 [(.tmp 4,3,false),(.tmp 5,4,false)]:=fun _ _ _=>by kernel_rfl
def F78:FT78:=p78 F75
theorem ok78:OKP (en78 F78):=ST.ok0 (q78 F75) (Aa ok75 Ab) Tryz.func78
abbrev zr2:=(R:Type)→(List Tq3)→(LI→Option R)→Option R
def en124 (F:zr2):Ent:=eV 124 [(.sl Kq3)] [(.sl (.int .i64))] F
abbrev zu7 (Z:Type):=(List Tq3)→Int→LI→Z
abbrev E124_3 (R:Type):=(LI→Option R)→Option R
abbrev Nx:=(R:Type)→zu7 (E124_3 R)
def zb8 (L:Nx):LEnt:=lM 3 [.val 0 (.sl Kq3),.fix 3 (.own 0 0),.val 4 (.int .i64),.row 0 (.int .i64) false] 1 [(.exit 0,[.fix 3 (.own 0 0),.row 0 (.int .i64) false])] L
def e124 (L3:Nx):=sE 0 26 [(1,0)] [] [zb8 L3]
def zl2 (R:Type):zu7 (zu7 (Option R)→E124_3 R):=fun x1 x2 x3 kc k0=>
let v4:=(x1.length:Int);let v5:=decide (x2<v4);(match v5 with
|true=>(match bnd x2 x1.length with
|true=>let v6:=(x1.getD x2.toNat (0,(List.replicate 32 0),false,(List.replicate 32 0),())).2.2.1;(match (!v6) with
|true=>(match bnd x2 x1.length with
|true=>let v7:=(x1.getD x2.toNat (0,(List.replicate 32 0),false,(List.replicate 32 0),())).1;let v8:=([v7]:LI);(match (decide (x3.length+v8.length≤17592186044416)) with
|true=>let v9:=x3++v8;let v10:=IntKind.i64.wrap (x2+1);kc x1 v10 v9
|false=>none)
|false=>none)
|false=>let v11:=IntKind.i64.wrap (x2+1);kc x1 v11 x3)
|false=>none)
|false=>k0 x3)
theorem q124_3 (L3:Nx):LEQ (zb8 L3) (e124 L3) Tryz.f124 zl2:=fun _ _ _ _=>by kernel_rfl
def Rt:Nat→Nx
 | 0=>fun _ _ _ _ _=>none
 | n+1=>fun R x1 x2 x3 k0=>zl2 R x1 x2 x3 (fun x1 x2 x3=>Rt n R x1 x2 x3 k0) k0
def p124 (L3:Nx):zr2:=fun R a0 k=>
L3 R a0 (0:Int) ([]:LI) (fun x1=>
k x1)
theorem q124 (L3:Nx):EQ (en124 (p124 L3)) (e124 L3) Tryz.f124 [(.tmp 2,32,false)]:=fun _ _ _=>by kernel_rfl
def F124:zr2:=p124 (Rt FUEL)
theorem zyc:LKP (zb8 (Rt FUEL)) 0 26 3 Tryz.f124:=ST.lok (q124_3 (Rt FUEL)) Ab [] trivial
theorem ok124:OKP (en124 F124):=ST.ok1 (q124 (Rt FUEL)) Ab Tryz.func124 [3] ⟨⟨_,rfl,zyc⟩,trivial⟩
abbrev FT79:=(R:Type)→Tq24→(Tq24→Tq37→LI→Int→Option R)→Option R
def en79 (F:FT79):Ent:=eV 79 [Kq24] [Kq24,Kq37,(.sl (.int .i64)),(.int .i64)] F
def p79 (F24:FT24) (F120:V1) (F124:zr2):FT79:=fun R a0 k=>
F120 R a0 fun y1=>
(match (!y1) with
|true=>k ((0:Int),(List.replicate 32 (0:Int)),(List.replicate 32 (0:Int)),([]:(List Tq3)),()) ((0:Int),(List.replicate 32 (0:Int)),(List.replicate 32 (0:Int)),(List.replicate 32 (0:Int)),()) ([]:LI) (1:Int)
|false=>let v2:=a0.1==18446744073709551615;(match v2 with
|true=>k ((0:Int),(List.replicate 32 (0:Int)),(List.replicate 32 (0:Int)),([]:(List Tq3)),()) ((0:Int),(List.replicate 32 (0:Int)),(List.replicate 32 (0:Int)),(List.replicate 32 (0:Int)),()) ([]:LI) (3:Int)
|false=>F24 R a0.2.1 a0.1 a0.2.2.1 fun y3=>
let v4:=IntKind.u64.wrap (a0.1+1);F124 R a0.2.2.2.1 fun y5=>
k (v4,y3,(List.replicate 32 (0:Int)),([]:(List Tq3)),()) (a0.1,a0.2.1,a0.2.2.1,y3,()) y5 (0:Int)))
theorem q79 (F24:FT24) (F120:V1) (F124:zr2):EQ (en79 (p79 F24 F120 F124)) (sE 0 40 [] [en24 F24,zom F120,en124 F124] []) Tryz.f79 [(.cell 2 31,31,false),(.cell 3 122,122,false),(.tmp 4,32,false),(.tmp 5,35,false)]:=fun _ _ _=>by kernel_rfl
def F79:FT79:=p79 F24 F120 F124
theorem ok79:OKP (en79 F79):=ST.ok0 (q79 F24 F120 F124) (Aa ok24 (Aa ok120 (Aa ok124 Ab))) Tryz.func79
abbrev FT80:=(R:Type)→(List Tq5)→((List Tq5)→Option R)→Option R
def en80 (F:FT80):Ent:=eV 80 [(.sl Kq5)] [(.sl Kq5)] F
abbrev D80_3 (Z:Type):=(List Tq5)→Int→(List Tq5)→Z
abbrev E80_3 (R:Type):=((List Tq5)→Option R)→Option R
abbrev Td:=(R:Type)→D80_3 (E80_3 R)
def zm4 (L:Td):LEnt:=lM 3 [.val 0 (.sl Kq5),.fix 3 (.own 0 0),.val 4 (.int .i64),.row 0 Kq5 false] 1 [(.exit 0,[.fix 3 (.own 0 0),.row 0 Kq5 false])] L
def e80 (L3:Td):=sE 0 31 [(1,0)] [] [zm4 L3]
def p80_3 (R:Type):D80_3 (D80_3 (Option R)→E80_3 R):=fun x1 x2 x3 kc k0=>
let v4:=(x1.length:Int);let v5:=decide (x2<v4);(match v5 with
|true=>(match bnd x2 x1.length with
|true=>let v6:=(x1.getD x2.toNat ((List.replicate 32 0),0,0,())).1;(match bnd x2 x1.length with
|true=>let v7:=(x1.getD x2.toNat ((List.replicate 32 0),0,0,())).2.2.1;(match bnd x2 x1.length with
|true=>let v8:=(x1.getD x2.toNat ((List.replicate 32 0),0,0,())).2.2.1;let v9:=([(v6,v7,v8,())]:(List Tq5));(match (decide (x3.length+v9.length≤2932031007402)) with
|true=>let v10:=x3++v9;let v11:=IntKind.i64.wrap (x2+1);kc x1 v11 v10
|false=>none)
|false=>none)
|false=>none)
|false=>none)
|false=>k0 x3)
theorem q80_3 (L3:Td):LEQ (zm4 L3) (e80 L3) Tryz.f80 p80_3:=fun _ _ _ _=>by kernel_rfl
def zdb:Nat→Td
 | 0=>fun _ _ _ _ _=>none
 | n+1=>fun R x1 x2 x3 k0=>p80_3 R x1 x2 x3 (fun x1 x2 x3=>zdb n R x1 x2 x3 k0) k0
def p80 (L3:Td):FT80:=fun R a0 k=>
L3 R a0 (0:Int) ([]:(List Tq5)) (fun x1=>
k x1)
theorem q80 (L3:Td):EQ (en80 (p80 L3)) (e80 L3) Tryz.f80 [(.tmp 2,27,false)]:=fun _ _ _=>by kernel_rfl
def F80:FT80:=p80 (zdb FUEL)
theorem lok80_3:LKP (zm4 (zdb FUEL)) 0 31 3 Tryz.f80:=ST.lok (q80_3 (zdb FUEL)) Ab [] trivial
theorem ok80:OKP (en80 F80):=ST.ok1 (q80 (zdb FUEL)) Ab Tryz.func80 [3] ⟨⟨_,rfl,lok80_3⟩,trivial⟩
abbrev FT42:=(R:Type)→Int→Int→(Bool→Option R)→Option R
def en42 (F:FT42):Ent:=eV 42 [(.int .i64),(.int .i64)] [.bool] F
def p42:FT42:=fun R a0 a1 k=>
let v1:=decide (a0≥0);(match v1 with
|true=>let v2:=decide (a0<1024);(match v2 with
|true=>let v3:=decide (a1≥1);(match v3 with
|true=>let v4:=decide (a1≤64);k v4
|false=>k false)
|false=>k false)
|false=>k false)
theorem q42:EQ (en42 p42) (sE 0 19 [] [] []) Tryz.f42 [(.tmp 4,4,false)]:=fun _ _ _=>by kernel_rfl
def F42:FT42:=p42
theorem ok42:OKP (en42 F42):=ST.ok0 q42 Ab Tryz.func42
abbrev ze1:=(R:Type)→Int→(Int→Option R)→Option R
def en130 (F:ze1):Ent:=eV 130 [(.int .i64)] [(.int .i64)] F
abbrev zu3 (Z:Type):=Int→Int→Z
abbrev E130_2 (R:Type):=(Int→Option R)→Option R
abbrev Nt:=(R:Type)→zu3 (E130_2 R)
def zb4 (L:Nt):LEnt:=lM 2 [.val 0 (.int .i64),.val 3 (.int .i64)] 0 [(.exit 0,[.val 3 (.int .i64)])] L
def e130 (L2:Nt):=sE 0 12 [] [] [zb4 L2]
def zlz (R:Type):zu3 (zu3 (Option R)→E130_2 R):=fun x1 x2 kc k0=>
let v3:=Int.tmod x1 (2:Int);let v4:=v3==0;(match v4 with
|true=>let v5:=IntKind.i64.wrap (Int.tdiv x1 (2:Int));let v6:=IntKind.i64.wrap ((2:Int)*x2);kc v5 v6
|false=>k0 x2)
theorem q130_2 (L2:Nt):LEQ (zb4 L2) (e130 L2) Tryz.f130 zlz:=fun _ _ _ _=>by kernel_rfl
def Rq:Nat→Nt
 | 0=>fun _ _ _ _=>none
 | n+1=>fun R x1 x2 k0=>zlz R x1 x2 (fun x1 x2=>Rq n R x1 x2 k0) k0
def p130 (L2:Nt):ze1:=fun R a0 k=>
L2 R a0 (1:Int) (fun x1=>
k x1)
theorem q130 (L2:Nt):EQ (en130 (p130 L2)) (e130 L2) Tryz.f130 [(.tmp 2,3,false)]:=fun _ _ _=>by kernel_rfl
def F130:ze1:=p130 (Rq FUEL)
theorem zx8:LKP (zb4 (Rq FUEL)) 0 12 2 Tryz.f130:=ST.lok (q130_2 (Rq FUEL)) Ab [] trivial
theorem ok130:OKP (en130 F130):=ST.ok1 (q130 (Rq FUEL)) Ab Tryz.func130 [2] ⟨⟨_,rfl,zx8⟩,trivial⟩
abbrev ze2:=(R:Type)→LI→Int→Int→(Int→Option R)→Option R
def en129 (F:ze2):Ent:=eV 129 [(.sl (.int .u64)),(.int .i64),(.int .i64)] [(.int .u64)] F
abbrev zu4 (Z:Type):=LI→Int→Int→Int→Z
abbrev E129_3 (R:Type):=(Int→Option R)→Option R
abbrev Nu:=(R:Type)→zu4 (E129_3 R)
def zb5 (L:Nu):LEnt:=lM 3 [.val 0 (.sl (.int .u64)),.val 2 (.int .i64),.val 7 (.int .u64),.val 8 (.int .i64)] 0 [(.exit 0,[.val 7 (.int .u64)])] L
def e129 (L3:Nu):=sE 0 22 [] [] [zb5 L3]
def zl0 (R:Type):zu4 (zu4 (Option R)→E129_3 R):=fun x1 x2 x3 x4 kc k0=>
let v5:=decide (x4<x2);(match v5 with
|true=>(match bnd x4 x1.length with
|true=>let v6:=x1.getD x4.toNat 0;let v7:=IntKind.u64.wrap (x3+v6);let v8:=IntKind.i64.wrap (x4+1);kc x1 x2 v7 v8
|false=>none)
|false=>k0 x3)
theorem q129_3 (L3:Nu):LEQ (zb5 L3) (e129 L3) Tryz.f129 zl0:=fun _ _ _ _=>by kernel_rfl
def Rr:Nat→Nu
 | 0=>fun _ _ _ _ _ _=>none
 | n+1=>fun R x1 x2 x3 x4 k0=>zl0 R x1 x2 x3 x4 (fun x1 x2 x3 x4=>Rr n R x1 x2 x3 x4 k0) k0
def p129 (L3:Nu):ze2:=fun R a0 a1 a2 k=>
L3 R a0 a2 (0:Int) a1 (fun x1=>
k x1)
theorem q129 (L3:Nu):EQ (en129 (p129 L3)) (e129 L3) Tryz.f129 [(.tmp 6,28,false)]:=fun _ _ _=>by kernel_rfl
def F129:ze2:=p129 (Rr FUEL)
theorem zx9:LKP (zb5 (Rr FUEL)) 0 22 3 Tryz.f129:=ST.lok (q129_3 (Rr FUEL)) Ab [] trivial
theorem ok129:OKP (en129 F129):=ST.ok1 (q129 (Rr FUEL)) Ab Tryz.func129 [3] ⟨⟨_,rfl,zx9⟩,trivial⟩
abbrev FT87:=(R:Type)→LI→((LI×Unit)→Option R)→Option R
def en87 (F:FT87):Ent:=eV 87 [(.sl (.int .u64))] [(.pair (.sl (.int .u64)) .unit)] F
abbrev D87_3 (Z:Type):=LI→Int→(LI×Unit)→LI→Unit→Z
abbrev E87_3 (R:Type):=((LI×Unit)→LI→Unit→Option R)→Option R
abbrev S9:=(R:Type)→D87_3 (E87_3 R)
def zm0 (L:S9):LEnt:=lM 3 [.val 0 (.sl (.int .u64)),.fix 2 (.ptr 0 [] (.pair (.sl (.int .u64)) .unit)),.fix 3 (.mptr 2 0 (.pair (.sl (.int .u64)) .unit)),.val 4 (.int .i64),.var 0 (.pair (.sl (.int .u64)) .unit) false,.row 1 (.int .u64) false,.mix 2 [((.sl (.int .u64)),some 1)]] 3 [(.exit 0,[.fix 2 (.ptr 0 [] (.pair (.sl (.int .u64)) .unit)),.fix 3 (.mptr 2 0 (.pair (.sl (.int .u64)) .unit)),.var 0 (.pair (.sl (.int .u64)) .unit) false,.row 1 (.int .u64) false,.mix 2 [((.sl (.int .u64)),some 1)]])] L
def e87 (F129:ze2) (F130:ze1) (L3:S9):=sE 0 27 [(1,0)] [en129 F129,en130 F130] [zm0 L3]
def p87_3 (F129:ze2) (F130:ze1) (R:Type):D87_3 (D87_3 (Option R)→E87_3 R):=fun x1 x2 x3 x4 x5 kc k0=>
let v6:=(x1.length:Int);let v7:=decide (x2<v6);(match v7 with
|true=>let v8:=IntKind.i64.wrap (x2+1);let v9:=IntKind.i64.wrap (x2+1);F130 R v9 fun y10=>
let v11:=IntKind.i64.wrap (v8 - y10);let v12:=IntKind.i64.wrap (x2+1);F129 R x1 v11 v12 fun y13=>
let v14:=([y13]:LI);(match (decide (x4.length+v14.length≤17592186044416)) with
|true=>let v15:=x4++v14;let v16:=IntKind.i64.wrap (x2+1);kc x1 v16 x3 v15 ()
|false=>none)
|false=>k0 x3 x4 ())
theorem q87_3 (F129:ze2) (F130:ze1) (L3:S9):LEQ (zm0 L3) (e87 F129 F130 L3) Tryz.f87 (p87_3 F129 F130):=fun _ _ _ _=>by kernel_rfl
def zc6:Nat→S9
 | 0=>fun _ _ _ _ _ _ _=>none
 | n+1=>fun R x1 x2 x3 x4 x5 k0=>p87_3 F129 F130 R x1 x2 x3 x4 x5 (fun x1 x2 x3 x4 x5=>zc6 n R x1 x2 x3 x4 x5 k0) k0
def p87 (L3:S9):FT87:=fun R a0 k=>
L3 R a0 (0:Int) (([]:LI),()) ([]:LI) () (fun x1 x2 x3=>
k (x2,()))
theorem q87 (F129:ze2) (F130:ze1) (L3:S9):EQ (en87 (p87 L3)) (e87 F129 F130 L3) Tryz.f87 [(.cell 2 87,87,false)]:=fun _ _ _=>by kernel_rfl
def F87:FT87:=p87 (zc6 FUEL)
theorem lok87_3:LKP (zm0 (zc6 FUEL)) 0 27 3 Tryz.f87:=ST.lok (q87_3 F129 F130 (zc6 FUEL)) (Aa ok129 (Aa ok130 Ab)) [] trivial
theorem ok87:OKP (en87 F87):=ST.ok1 (q87 F129 F130 (zc6 FUEL)) (Aa ok129 (Aa ok130 Ab)) Tryz.func87 [3] ⟨⟨_,rfl,lok87_3⟩,trivial⟩
abbrev FT43:=(R:Type)→LI→((LI×Unit)→Int→Option R)→Option R
def en43 (F:FT43):Ent:=eV 43 [(.sl (.int .u64))] [(.pair (.sl (.int .u64)) .unit),(.int .i64)] F
def p43 (F86:FT86) (F87:FT87):FT43:=fun R a0 k=>
let v1:=(a0.length:Int);let v2:=decide (v1>1048576);(match v2 with
|true=>k (([]:LI),()) (14:Int)
|false=>F86 R a0 fun y3 y4=>
(match (!y4) with
|true=>k (([]:LI),()) (11:Int)
|false=>F87 R a0 fun y5=>
k y5 (0:Int)))
theorem q43 (F86:FT86) (F87:FT87):EQ (en43 (p43 F86 F87)) (sE 0 20 [] [en86 F86,en87 F87] []) Tryz.f43 [(.cell 2 87,87,false),(.tmp 3,35,false)]:=fun _ _ _=>by kernel_rfl
def F43:FT43:=p43 F86 F87
theorem ok43:OKP (en43 F43):=ST.ok0 (q43 F86 F87) (Aa ok86 (Aa ok87 Ab)) Tryz.func43
abbrev zry:=(R:Type)→Int→Int→(Int→Option R)→Option R
def en133 (F:zry):Ent:=eV 133 [(.int .u32),(.int .u32)] [(.int .u64)] F
def p133:zry:=fun R a0 a1 k=>
let v1:=IntKind.u64.wrap a0;let v2:=IntKind.u64.wrap (v1*4294967296);let v3:=IntKind.u64.wrap a1;let v4:=IntKind.u64.wrap (v2+v3);k v4
theorem q133:EQ (en133 p133) (sE 0 11 [] [] []) Tryz.f133 [(.tmp 4,28,false)]:=fun _ _ _=>by kernel_rfl
def F133:zry:=p133
theorem ok133:OKP (en133 F133):=ST.ok0 q133 Ab Tryz.func133
abbrev FT89:=(R:Type)→LI→Int→Int→(Tq40→Option R)→Option R
def en89 (F:FT89):Ent:=eV 89 [(.arr 32 (.int .u8)),(.int .u32),(.int .i64)] [Kq40] F
def p89 (F133:zry):FT89:=fun R a0 a1 a2 k=>
let v1:=IntKind.u32.wrap a2;F133 R a1 v1 fun y2=>
k ((2:Int),([]:LI),(0:Int),a0,y2,(0:Int),())
theorem q89 (F133:zry):EQ (en89 (p89 F133)) (sE 0 13 [] [en133 F133] []) Tryz.f89 [(.cell 6 132,132,false)]:=fun _ _ _=>by kernel_rfl
def F89:FT89:=p89 F133
theorem ok89:OKP (en89 F89):=ST.ok0 (q89 F133) (Aa ok133 Ab) Tryz.func89
abbrev Iu:=(R:Type)→Tq40→(Bool→Option R)→Option R
def zi3 (F:Iu):Ent:=eV 172 [Kq40] [.bool] F
def p172:Iu:=fun R a0 k=>
let v1:=a0.1==1;(match v1 with
|true=>let v2:=(a0.2.1.length:Int);let v3:=IntKind.u64.wrap v2;let v4:=IntKind.u64.wrap ((8:Int)*v3);let v5:=decide (a0.2.2.1≤v4);(match v5 with
|true=>let v6:=decide (a0.2.2.2.2.2.1≤a0.2.2.1);k v6
|false=>k false)
|false=>let v7:=a0.1==2;(match v7 with
|true=>let v8:=decide (a0.2.2.2.2.2.1≤4611686018427387904);k v8
|false=>k false))
theorem q172:EQ (zi3 p172) (sE 0 29 [] [] []) Tryz.f172 [(.tmp 2,4,false)]:=fun _ _ _=>by kernel_rfl
def F172:Iu:=p172
theorem zig:OKP (zi3 F172):=ST.ok0 q172 Ab Tryz.func172
abbrev zrc:=(R:Type)→Int→(Int→Option R)→Option R
def en215 (F:zrc):Ent:=eV 215 [(.int .u64)] [(.int .i64)] F
abbrev zub (Z:Type):=Int→Int→Z
abbrev E215_2 (R:Type):=(Int→Option R)→Option R
abbrev Na:=(R:Type)→zub (E215_2 R)
def zbc (L:Na):LEnt:=lM 2 [.val 0 (.int .u64),.val 3 (.int .i64)] 0 [(.exit 0,[.val 3 (.int .i64)])] L
def e215 (L2:Na):=sE 0 11 [] [] [zbc L2]
def zgi (R:Type):zub (zub (Option R)→E215_2 R):=fun x1 x2 kc k0=>
let v3:=decide (x1>0);(match v3 with
|true=>let v4:=IntKind.u64.wrap (Int.tdiv x1 (2:Int));let v5:=IntKind.i64.wrap (x2+1);kc v4 v5
|false=>k0 x2)
theorem q215_2 (L2:Na):LEQ (zbc L2) (e215 L2) Tryz.f215 zgi:=fun _ _ _ _=>by kernel_rfl
def Ov:Nat→Na
 | 0=>fun _ _ _ _=>none
 | n+1=>fun R x1 x2 k0=>zgi R x1 x2 (fun x1 x2=>Ov n R x1 x2 k0) k0
def p215 (L2:Na):zrc:=fun R a0 k=>
L2 R a0 (0:Int) (fun x1=>
k x1)
theorem q215 (L2:Na):EQ (en215 (p215 L2)) (e215 L2) Tryz.f215 [(.tmp 2,3,false)]:=fun _ _ _=>by kernel_rfl
def F215:zrc:=p215 (Ov FUEL)
theorem zxf:LKP (zbc (Ov FUEL)) 0 11 2 Tryz.f215:=ST.lok (q215_2 (Ov FUEL)) Ab [] trivial
theorem ok215:OKP (en215 F215):=ST.ok1 (q215 (Ov FUEL)) Ab Tryz.func215 [2] ⟨⟨_,rfl,zxf⟩,trivial⟩
abbrev zeq:=(R:Type)→Int→(Int→Option R)→Option R
def en174 (F:zeq):Ent:=eV 174 [(.int .u64)] [(.int .i64)] F
def p174 (F215:zrc):zeq:=fun R a0 k=>
let v1:=a0==0;(match v1 with
|true=>k (0:Int)
|false=>let v2:=IntKind.u64.wrap (a0 - 1);F215 R v2 fun y3=>
k y3)
theorem q174 (F215:zrc):EQ (en174 (p174 F215)) (sE 0 8 [] [en215 F215] []) Tryz.f174 [(.tmp 2,3,false)]:=fun _ _ _=>by kernel_rfl
def F174:zeq:=p174 F215
theorem ok174:OKP (en174 F174):=ST.ok0 (q174 F215) (Aa ok215 Ab) Tryz.func174
abbrev zei:=(R:Type)→Tq40→(Int→Option R)→Option R
def en213 (F:zei):Ent:=eV 213 [Kq40] [(.int .u64)] F
def p213 (F172:Iu):zei:=fun R a0 k=>
F172 R a0 fun y1=>
(match (!y1) with
|true=>k (0:Int)
|false=>let v2:=a0.1==1;(match v2 with
|true=>let v3:=IntKind.u64.wrap (a0.2.2.1 - a0.2.2.2.2.2.1);k v3
|false=>let v4:=IntKind.u64.wrap ((4611686018427387904:Int) - a0.2.2.2.2.2.1);k v4))
theorem q213 (F172:Iu):EQ (en213 (p213 F172)) (sE 0 17 [] [zi3 F172] []) Tryz.f213 [(.tmp 2,28,false)]:=fun _ _ _=>by kernel_rfl
def F213:zei:=p213 F172
theorem ok213:OKP (en213 F213):=ST.ok0 (q213 F172) (Aa zig Ab) Tryz.func213
abbrev zqv:=(R:Type)→LI→Int→Int→(LI→Option R)→Option R
def en268 (F:zqv):Ent:=eV 268 [(.arr 32 (.int .u8)),(.int .u64),(.int .u64)] [(.arr 32 (.int .u8))] F
abbrev ztx (Z:Type):=Int→Int→Int→LI→LI→LI→Z
abbrev E268_3 (R:Type):=(Int→Int→LI→LI→Option R)→Option R
abbrev Iq:=(R:Type)→ztx (E268_3 R)
def zay (L:Iq):LEnt:=lM 3 [.val 1 (.int .u64),.val 2 (.int .u64),.fix 3 (.ptr 0 [] (.arr 32 (.int .u8))),.fix 6 (.ptr 1 [] (.arr 32 (.int .u8))),.fix 7 (.own 2 0),.val 8 (.int .i64),.var 0 (.arr 32 (.int .u8)) false,.var 1 (.arr 32 (.int .u8)) false,.row 2 (.int .u8) false] 3 [(.exit 0,[.val 1 (.int .u64),.val 2 (.int .u64),.fix 6 (.ptr 1 [] (.arr 32 (.int .u8))),.fix 7 (.own 2 0),.var 1 (.arr 32 (.int .u8)) false,.row 2 (.int .u8) false])] L
abbrev ztw (Z:Type):=Int→LI→LI→LI→LI→Z
abbrev E268_8 (R:Type):=(LI→LI→LI→Option R)→Option R
abbrev Ip:=(R:Type)→ztw (E268_8 R)
def zax (L:Ip):LEnt:=lM 8 [.fix 6 (.ptr 1 [] (.arr 32 (.int .u8))),.fix 7 (.own 2 0),.fix 9 (.ptr 3 [] (.arr 8 (.int .u8))),.fix 10 (.ptr 4 [] (.arr 8 (.int .u8))),.val 11 (.int .i64),.var 1 (.arr 32 (.int .u8)) false,.row 2 (.int .u8) false,.var 3 (.arr 8 (.int .u8)) false,.var 4 (.arr 8 (.int .u8)) false] 5 [(.exit 2,[.fix 6 (.ptr 1 [] (.arr 32 (.int .u8))),.fix 7 (.own 2 0),.fix 10 (.ptr 4 [] (.arr 8 (.int .u8))),.var 1 (.arr 32 (.int .u8)) false,.row 2 (.int .u8) false,.var 4 (.arr 8 (.int .u8)) false])] L
abbrev zfl (Z:Type):=Int→LI→LI→LI→Z
abbrev ztk (R:Type):=(LI→LI→Option R)→Option R
abbrev Ga:=(R:Type)→zfl (ztk R)
def Uw (L:Ga):LEnt:=lM 12 [.fix 6 (.ptr 1 [] (.arr 32 (.int .u8))),.fix 7 (.own 2 0),.fix 10 (.ptr 4 [] (.arr 8 (.int .u8))),.val 12 (.int .i64),.var 1 (.arr 32 (.int .u8)) false,.row 2 (.int .u8) false,.var 4 (.arr 8 (.int .u8)) false] 5 [(.exit 4,[.fix 6 (.ptr 1 [] (.arr 32 (.int .u8))),.fix 7 (.own 2 0),.var 1 (.arr 32 (.int .u8)) false,.row 2 (.int .u8) false])] L
def e268 (F45:FT45) (F47:FT47) (L3:Iq) (L8:Ip) (L12:Ga):=sE 0 49 [(1,0)] [en45 F45,en47 F47] [zay L3,zax L8,Uw L12]
def zk1 (R:Type):ztx (ztx (Option R)→E268_3 R):=fun x1 x2 x3 x4 x5 x6 kc k0=>
let v7:=decide (x3<32);(match v7 with
|true=>(match (bnd x3 (32:Int)) with
|true=>let v8:=x4.getD x3.toNat 0;let v9:=([v8]:LI);(match (decide (x6.length+v9.length≤140737488355328)) with
|true=>let v10:=x6++v9;let v11:=IntKind.i64.wrap (x3+1);kc x1 x2 v11 x4 x5 v10
|false=>none)
|false=>none)
|false=>k0 x1 x2 x5 x6)
theorem q268_3 (F45:FT45) (F47:FT47) (L3:Iq) (L8:Ip) (L12:Ga):LEQ (zay L3) (e268 F45 F47 L3 L8 L12) Tryz.f268 zk1:=fun _ _ _ _=>by kernel_rfl
def Ld:Nat→Iq
 | 0=>fun _ _ _ _ _ _ _ _=>none
 | n+1=>fun R x1 x2 x3 x4 x5 x6 k0=>zk1 R x1 x2 x3 x4 x5 x6 (fun x1 x2 x3 x4 x5 x6=>Ld n R x1 x2 x3 x4 x5 x6 k0) k0
def zk0 (R:Type):ztw (ztw (Option R)→E268_8 R):=fun x1 x2 x3 x4 x5 kc k0=>
let v6:=decide (x1<8);(match v6 with
|true=>(match (bnd x1 (8:Int)) with
|true=>let v7:=x4.getD x1.toNat 0;let v8:=([v7]:LI);(match (decide (x3.length+v8.length≤140737488355328)) with
|true=>let v9:=x3++v8;let v10:=IntKind.i64.wrap (x1+1);kc v10 x2 v9 x4 x5
|false=>none)
|false=>none)
|false=>k0 x2 x3 x5)
theorem q268_8 (F45:FT45) (F47:FT47) (L3:Iq) (L8:Ip) (L12:Ga):LEQ (zax L8) (e268 F45 F47 L3 L8 L12) Tryz.f268 zk0:=fun _ _ _ _=>by kernel_rfl
def Lc:Nat→Ip
 | 0=>fun _ _ _ _ _ _ _=>none
 | n+1=>fun R x1 x2 x3 x4 x5 k0=>zk0 R x1 x2 x3 x4 x5 (fun x1 x2 x3 x4 x5=>Lc n R x1 x2 x3 x4 x5 k0) k0
def Z3 (R:Type):zfl (zfl (Option R)→ztk R):=fun x1 x2 x3 x4 kc k0=>
let v5:=decide (x1<8);(match v5 with
|true=>(match (bnd x1 (8:Int)) with
|true=>let v6:=x4.getD x1.toNat 0;let v7:=([v6]:LI);(match (decide (x3.length+v7.length≤140737488355328)) with
|true=>let v8:=x3++v7;let v9:=IntKind.i64.wrap (x1+1);kc v9 x2 v8 x4
|false=>none)
|false=>none)
|false=>k0 x2 x3)
theorem q268_12 (F45:FT45) (F47:FT47) (L3:Iq) (L8:Ip) (L12:Ga):LEQ (Uw L12) (e268 F45 F47 L3 L8 L12) Tryz.f268 Z3:=fun _ _ _ _=>by kernel_rfl
def Hb:Nat→Ga
 | 0=>fun _ _ _ _ _ _=>none
 | n+1=>fun R x1 x2 x3 x4 k0=>Z3 R x1 x2 x3 x4 (fun x1 x2 x3 x4=>Hb n R x1 x2 x3 x4 k0) k0
def p268 (F45:FT45) (F47:FT47) (L3:Iq) (L8:Ip) (L12:Ga):zqv:=fun R a0 a1 a2 k=>
L3 R a1 a2 (0:Int) a0 (List.replicate 32 (0:Int)) ([]:LI) (fun x1 x2 x3 x4=>
F47 R x1 fun y5=>
F47 R x2 fun y6=>
L8 R (0:Int) x3 x4 y5 y6 (fun x7 x8 x9=>
L12 R (0:Int) x7 x8 x9 (fun x10 x11=>
F45 R x11 fun y12=>
k y12)))
theorem q268 (F45:FT45) (F47:FT47) (L3:Iq) (L8:Ip) (L12:Ga):EQ (en268 (p268 F45 F47 L3 L8 L12)) (e268 F45 F47 L3 L8 L12) Tryz.f268 [(.cell 6 25,25,false)]:=fun _ _ _=>by kernel_rfl
def F268:zqv:=p268 F45 F47 (Ld FUEL) (Lc FUEL) (Hb FUEL)
theorem zw1:LKP (zay (Ld FUEL)) 0 49 3 Tryz.f268:=ST.lok (q268_3 F45 F47 (Ld FUEL) (Lc FUEL) (Hb FUEL)) (Aa ok45 (Aa ok47 Ab)) [] trivial
theorem zw0:LKP (zax (Lc FUEL)) 0 49 8 Tryz.f268:=ST.lok (q268_8 F45 F47 (Ld FUEL) (Lc FUEL) (Hb FUEL)) (Aa ok45 (Aa ok47 Ab)) [] trivial
theorem zmp:LKP (Uw (Hb FUEL)) 0 49 12 Tryz.f268:=ST.lok (q268_12 F45 F47 (Ld FUEL) (Lc FUEL) (Hb FUEL)) (Aa ok45 (Aa ok47 Ab)) [] trivial
theorem ok268:OKP (en268 F268):=ST.ok1 (q268 F45 F47 (Ld FUEL) (Lc FUEL) (Hb FUEL)) (Aa ok45 (Aa ok47 Ab)) Tryz.func268 [3,8,12] ⟨⟨_,rfl,zw1⟩,⟨⟨_,rfl,zw0⟩,⟨⟨_,rfl,zmp⟩,trivial⟩⟩⟩
abbrev zqu:=(R:Type)→Int→(Int→Option R)→Option R
def en269 (F:zqu):Ent:=eV 269 [(.int .u64)] [(.int .u64)] F
abbrev ztv (Z:Type):=Int→Int→Int→Z
abbrev E269_3 (R:Type):=(Int→Option R)→Option R
abbrev My:=(R:Type)→ztv (E269_3 R)
def zaw (L:My):LEnt:=lM 3 [.val 0 (.int .u64),.val 3 (.int .u64),.val 4 (.int .u64)] 0 [(.exit 0,[.val 3 (.int .u64)])] L
def e269 (L3:My):=sE 0 13 [] [] [zaw L3]
def zkz (R:Type):ztv (ztv (Option R)→E269_3 R):=fun x1 x2 x3 kc k0=>
let v4:=decide (x3<x1);(match v4 with
|true=>let v5:=IntKind.u64.wrap ((2:Int)*x2);let v6:=IntKind.u64.wrap (x3+1);kc x1 v5 v6
|false=>k0 x2)
theorem q269_3 (L3:My):LEQ (zaw L3) (e269 L3) Tryz.f269 zkz:=fun _ _ _ _=>by kernel_rfl
def Q5:Nat→My
 | 0=>fun _ _ _ _ _=>none
 | n+1=>fun R x1 x2 x3 k0=>zkz R x1 x2 x3 (fun x1 x2 x3=>Q5 n R x1 x2 x3 k0) k0
def p269 (L3:My):zqu:=fun R a0 k=>
L3 R a0 (1:Int) (0:Int) (fun x1=>
k x1)
theorem q269 (L3:My):EQ (en269 (p269 L3)) (e269 L3) Tryz.f269 [(.tmp 2,28,false)]:=fun _ _ _=>by kernel_rfl
def F269:zqu:=p269 (Q5 FUEL)
theorem zwz:LKP (zaw (Q5 FUEL)) 0 13 3 Tryz.f269:=ST.lok (q269_3 (Q5 FUEL)) Ab [] trivial
theorem ok269:OKP (en269 F269):=ST.ok1 (q269 (Q5 FUEL)) Ab Tryz.func269 [3] ⟨⟨_,rfl,zwz⟩,trivial⟩
end Go.PG
set_option maxRecDepth 100000
namespace Go.PG
open Go.Proofs
abbrev zq1:=(R:Type)→LI→Int→Int→(Int→Option R)→Option R
def en246 (F:zq1):Ent:=eV 246 [(.arr 32 (.int .u8)),(.int .u64),(.int .u64)] [(.int .u64)] F
def p246 (F268:zqv) (F269:zqu):zq1:=fun R a0 a1 a2 k=>
let v1:=IntKind.u64.wrap (Int.tdiv a2 (256:Int));F268 R a0 a1 v1 fun y2=>
let v3:=Int.tmod a2 (256:Int);let v4:=IntKind.u64.wrap (Int.tdiv v3 (8:Int));(match (bnd v4 (32:Int)) with
|true=>let v5:=y2.getD v4.toNat 0;let v6:=IntKind.u64.wrap v5;let v7:=Int.tmod a2 (8:Int);let v8:=IntKind.u64.wrap ((7:Int) - v7);F269 R v8 fun y9=>
(match (!(y9==0)) with
|true=>let v10:=IntKind.u64.wrap (Int.tdiv v6 y9);let v11:=Int.tmod v10 (2:Int);k v11
|false=>none)
|false=>none)
theorem q246 (F268:zqv) (F269:zqu):EQ (en246 (p246 F268 F269)) (sE 0 25 [] [en268 F268,en269 F269] []) Tryz.f246 [(.tmp 6,28,false)]:=fun _ _ _=>by kernel_rfl
def F246:zq1:=p246 F268 F269
theorem ok246:OKP (en246 F246):=ST.ok0 (q246 F268 F269) (Aa ok268 (Aa ok269 Ab)) Tryz.func246
abbrev zeh:=(R:Type)→Tq40→Int→(Int→Option R)→Option R
def en214 (F:zeh):Ent:=eV 214 [Kq40,(.int .u64)] [(.int .u64)] F
def p214 (F246:zq1) (F247:Vu):zeh:=fun R a0 a1 k=>
let v1:=a0.1==2;(match v1 with
|true=>F246 R a0.2.2.2.1 a0.2.2.2.2.1 a1 fun y2=>
k y2
|false=>let v3:=IntKind.u64.wrap (Int.tdiv a1 (8:Int));(match bnd v3 a0.2.1.length with
|true=>let v4:=a0.2.1.getD v3.toNat 0;let v5:=IntKind.u32.wrap v4;let v6:=Int.tmod a1 (8:Int);let v7:=IntKind.i64.wrap v6;let v8:=IntKind.i64.wrap ((7:Int) - v7);F247 R v5 v8 fun y9=>
let v10:=Int.tmod y9 (2:Int);let v11:=IntKind.u64.wrap v10;k v11
|false=>none))
theorem q214 (F246:zq1) (F247:Vu):EQ (en214 (p214 F246 F247)) (sE 0 28 [] [en246 F246,zob F247] []) Tryz.f214 [(.tmp 4,28,false)]:=fun _ _ _=>by kernel_rfl
def F214:zeh:=p214 F246 F247
theorem ok214:OKP (en214 F214):=ST.ok0 (q214 F246 F247) (Aa ok246 (Aa ok247 Ab)) Tryz.func214
abbrev zer:=(R:Type)→Tq40→Int→(Int→Tq40→Int→Option R)→Option R
def en173 (F:zer):Ent:=eV 173 [Kq40,(.int .i64)] [(.int .u64),Kq40,(.int .i64)] F
abbrev zun (Z:Type):=Int→Int→Int→Tq40→Tq40→Z
abbrev E173_7 (R:Type):=(Int→Tq40→Tq40→Option R)→Option R
abbrev Ni:=(R:Type)→zun (E173_7 R)
def zbo (L:Ni):LEnt:=lM 7 [.val 1 (.int .i64),.fix 2 (.ptr 0 [] Kq40),.fix 5 (.ptr 1 [] Kq40),.val 7 (.int .u64),.val 8 (.int .i64),.var 0 Kq40 false,.var 1 Kq40 false] 2 [(.exit 0,[.fix 2 (.ptr 0 [] Kq40),.fix 5 (.ptr 1 [] Kq40),.val 7 (.int .u64),.var 0 Kq40 false,.var 1 Kq40 false])] L
def e173 (F172:Iu) (F213:zei) (F214:zeh) (L7:Ni):=sE 0 45 [] [zi3 F172,en213 F213,en214 F214] [zbo L7]
def zll (F214:zeh) (R:Type):zun (zun (Option R)→E173_7 R):=fun x1 x2 x3 x4 x5 kc k0=>
let v6:=decide (x3<x1);(match v6 with
|true=>let v7:=IntKind.u64.wrap ((2:Int)*x2);F214 R x4 x4.2.2.2.2.2.1 fun y8=>
let v9:=IntKind.u64.wrap (v7+y8);let v10:=IntKind.u64.wrap (x4.2.2.2.2.2.1+1);let v11:=IntKind.i64.wrap (x3+1);kc x1 v9 v11 (x4.1,x4.2.1,x4.2.2.1,x4.2.2.2.1,x4.2.2.2.2.1,v10,x4.2.2.2.2.2.2) x5
|false=>k0 x2 x4 x5)
theorem q173_7 (F172:Iu) (F213:zei) (F214:zeh) (L7:Ni):LEQ (zbo L7) (e173 F172 F213 F214 L7) Tryz.f173 (zll F214):=fun _ _ _ _=>by kernel_rfl
def Oz:Nat→Ni
 | 0=>fun _ _ _ _ _ _ _=>none
 | n+1=>fun R x1 x2 x3 x4 x5 k0=>zll F214 R x1 x2 x3 x4 x5 (fun x1 x2 x3 x4 x5=>Oz n R x1 x2 x3 x4 x5 k0) k0
def p173 (F172:Iu) (F213:zei) (L7:Ni):zer:=fun R a0 a1 k=>
F172 R a0 fun y1=>
(match (!y1) with
|true=>k (0:Int) a0 (1:Int)
|false=>let v2:=decide (a1<0);(match v2 with
|true=>k (0:Int) a0 (1:Int)
|false=>let v3:=decide (a1>64);(match v3 with
|true=>k (0:Int) a0 (1:Int)
|false=>let v4:=IntKind.u64.wrap a1;F213 R a0 fun y5=>
let v6:=decide (v4>y5);(match v6 with
|true=>k (0:Int) a0 (8:Int)
|false=>L7 R a1 (0:Int) (0:Int) a0 ((0:Int),([]:LI),(0:Int),(List.replicate 32 (0:Int)),(0:Int),(0:Int),()) (fun x7 x8 x9=>
k x7 x8 (0:Int))))))
theorem q173 (F172:Iu) (F213:zei) (F214:zeh) (L7:Ni):EQ (en173 (p173 F172 F213 L7)) (e173 F172 F213 F214 L7) Tryz.f173 [(.tmp 4,28,false),(.cell 5 132,132,false),(.tmp 6,35,false)]:=fun _ _ _=>by kernel_rfl
def F173:zer:=p173 F172 F213 (Oz FUEL)
theorem zxr:LKP (zbo (Oz FUEL)) 0 45 7 Tryz.f173:=ST.lok (q173_7 F172 F213 F214 (Oz FUEL)) (Aa zig (Aa ok213 (Aa ok214 Ab))) [] trivial
theorem ok173:OKP (en173 F173):=ST.ok1 (q173 F172 F213 F214 (Oz FUEL)) (Aa zig (Aa ok213 (Aa ok214 Ab))) Tryz.func173 [7] ⟨⟨_,rfl,zxr⟩,trivial⟩
abbrev Pf:=(R:Type)→Tq40→Int→Int→(Int→Tq40→Int→Option R)→Option R
def zi5 (F:Pf):Ent:=eV 131 [Kq40,(.int .u64),(.int .i64)] [(.int .u64),Kq40,(.int .i64)] F
abbrev zu2 (Z:Type):=Int→Int→Int→Tq40→Tq40→Z
abbrev E131_4 (R:Type):=(Int→Int→Tq40→Option R)→(Tq40→Tq40→Option R)→Option R
abbrev Ns:=(R:Type)→zu2 (E131_4 R)
def zb3 (L:Ns):LEnt:=lM 4 [.val 1 (.int .u64),.val 2 (.int .i64),.fix 3 (.ptr 0 [] Kq40),.fix 7 (.ptr 1 [] Kq40),.val 9 (.int .i64),.var 0 Kq40 false,.var 1 Kq40 false] 2 [(.ret,[.val 6 (.int .u64),.fix 7 (.ptr 1 [] Kq40),.val 8 (.int .i64),.var 1 Kq40 false]),(.exit 0,[.fix 3 (.ptr 0 [] Kq40),.fix 7 (.ptr 1 [] Kq40),.var 0 Kq40 false,.var 1 Kq40 false])] L
def e131 (F172:Iu) (F173:zer) (F174:zeq) (L4:Ns):=sE 0 57 [] [zi3 F172,en173 F173,en174 F174] [zb3 L4]
def zly (F173:zer) (F174:zeq) (R:Type):zu2 (zu2 (Option R)→E131_4 R):=fun x1 x2 x3 x4 x5 kc k0 k1=>
let v6:=decide (x3<x2);(match v6 with
|true=>F174 R x1 fun y7=>
F173 R x4 y7 fun y8 y9 y10=>
let v11:=y10 !=0;(match v11 with
|true=>k0 (0:Int) y10 x4
|false=>let v12:=decide (y8<x1);(match v12 with
|true=>k0 y8 (0:Int) y9
|false=>let v13:=IntKind.i64.wrap (x3+1);kc x1 x2 v13 y9 x5))
|false=>k1 x4 x5)
theorem q131_4 (F172:Iu) (F173:zer) (F174:zeq) (L4:Ns):LEQ (zb3 L4) (e131 F172 F173 F174 L4) Tryz.f131 (zly F173 F174):=fun _ _ _ _=>by kernel_rfl
def Rp:Nat→Ns
 | 0=>fun _ _ _ _ _ _ _ _=>none
 | n+1=>fun R x1 x2 x3 x4 x5 k0 k1=>zly F173 F174 R x1 x2 x3 x4 x5 (fun x1 x2 x3 x4 x5=>Rp n R x1 x2 x3 x4 x5 k0 k1) k0 k1
def p131 (F172:Iu) (L4:Ns):Pf:=fun R a0 a1 a2 k=>
F172 R a0 fun y1=>
(match (!y1) with
|true=>k (0:Int) a0 (1:Int)
|false=>let v2:=decide (a1<1);(match v2 with
|true=>k (0:Int) a0 (1:Int)
|false=>let v3:=decide (a1≥9223372036854775808);(match v3 with
|true=>k (0:Int) a0 (1:Int)
|false=>let v4:=decide (a2<1);(match v4 with
|true=>k (0:Int) a0 (1:Int)
|false=>let v5:=decide (a2>64);(match v5 with
|true=>k (0:Int) a0 (1:Int)
|false=>L4 R a1 a2 (0:Int) a0 ((0:Int),([]:LI),(0:Int),(List.replicate 32 (0:Int)),(0:Int),(0:Int),()) (fun x6 x7 x8=>
k x6 x8 x7) (fun x9 x10=>
k (0:Int) x9 (9:Int)))))))
theorem q131 (F172:Iu) (F173:zer) (F174:zeq) (L4:Ns):EQ (zi5 (p131 F172 L4)) (e131 F172 F173 F174 L4) Tryz.f131 [(.tmp 6,28,false),(.cell 7 132,132,false),(.tmp 8,35,false)]:=fun _ _ _=>by kernel_rfl
def F131:Pf:=p131 F172 (Rp FUEL)
theorem zx7:LKP (zb3 (Rp FUEL)) 0 57 4 Tryz.f131:=ST.lok (q131_4 F172 F173 F174 (Rp FUEL)) (Aa zig (Aa ok173 (Aa ok174 Ab))) [] trivial
theorem zwm:OKP (zi5 F131):=ST.ok1 (q131 F172 F173 F174 (Rp FUEL)) (Aa zig (Aa ok173 (Aa ok174 Ab))) Tryz.func131 [4] ⟨⟨_,rfl,zx7⟩,trivial⟩
abbrev Sl:=(R:Type)→LI→Int→(Int→Int→Option R)→Option R
def zol (F:Sl):Ent:=eV 132 [(.sl (.int .u64)),(.int .u64)] [(.int .i64),(.int .i64)] F
abbrev zu1 (Z:Type):=LI→Int→Int→Z
abbrev E132_2 (R:Type):=(Int→Int→Option R)→(Option R)→Option R
abbrev Nr:=(R:Type)→zu1 (E132_2 R)
def zb2 (L:Nr):LEnt:=lM 2 [.val 0 (.sl (.int .u64)),.val 1 (.int .u64),.val 6 (.int .i64)] 0 [(.ret,[.val 4 (.int .i64),.val 5 (.int .i64)]),(.exit 0,[])] L
def e132 (L2:Nr):=sE 0 26 [] [] [zb2 L2]
def zlx (R:Type):zu1 (zu1 (Option R)→E132_2 R):=fun x1 x2 x3 kc k0 k1=>
let v4:=(x1.length:Int);let v5:=decide (x3<v4);(match v5 with
|true=>(match bnd x3 x1.length with
|true=>let v6:=x1.getD x3.toNat 0;let v7:=decide (x2<v6);(match v7 with
|true=>k0 x3 (0:Int)
|false=>(match bnd x3 x1.length with
|true=>let v8:=x1.getD x3.toNat 0;let v9:=IntKind.u64.wrap (x2 - v8);let v10:=IntKind.i64.wrap (x3+1);kc x1 v9 v10
|false=>none))
|false=>none)
|false=>k1)
theorem q132_2 (L2:Nr):LEQ (zb2 L2) (e132 L2) Tryz.f132 zlx:=fun _ _ _ _=>by kernel_rfl
def Ro:Nat→Nr
 | 0=>fun _ _ _ _ _ _=>none
 | n+1=>fun R x1 x2 x3 k0 k1=>zlx R x1 x2 x3 (fun x1 x2 x3=>Ro n R x1 x2 x3 k0 k1) k0 k1
def p132 (L2:Nr):Sl:=fun R a0 a1 k=>
L2 R a0 a1 (0:Int) (fun x1 x2=>
k x1 x2) (k (0:Int) (3:Int))
theorem q132 (L2:Nr):EQ (zol (p132 L2)) (e132 L2) Tryz.f132 [(.tmp 4,3,false),(.tmp 5,35,false)]:=fun _ _ _=>by kernel_rfl
def F132:Sl:=p132 (Ro FUEL)
theorem zx6:LKP (zb2 (Ro FUEL)) 0 26 2 Tryz.f132:=ST.lok (q132_2 (Ro FUEL)) Ab [] trivial
theorem ok132:OKP (zol F132):=ST.ok1 (q132 (Ro FUEL)) Ab Tryz.func132 [2] ⟨⟨_,rfl,zx6⟩,trivial⟩
abbrev FT88:=(R:Type)→LI→Tq40→Int→(Int→Tq40→Int→Option R)→Option R
def en88 (F:FT88):Ent:=eV 88 [(.sl (.int .u64)),Kq40,(.int .i64)] [(.int .i64),Kq40,(.int .i64)] F
def p88 (F86:FT86) (F131:Pf) (F132:Sl):FT88:=fun R a0 a1 a2 k=>
F86 R a0 fun y1 y2=>
(match (!y2) with
|true=>k (0:Int) a1 (11:Int)
|false=>let v3:=y1==0;(match v3 with
|true=>k (0:Int) a1 (10:Int)
|false=>F131 R a1 y1 a2 fun y4 y5 y6=>
let v7:=y6 !=0;(match v7 with
|true=>k (0:Int) y5 y6
|false=>F132 R a0 y4 fun y8 y9=>
k y8 y5 (0:Int))))
theorem q88 (F86:FT86) (F131:Pf) (F132:Sl):EQ (en88 (p88 F86 F131 F132)) (sE 0 47 [] [en86 F86,zi5 F131,zol F132] []) Tryz.f88 [(.tmp 6,3,false),(.cell 7 132,132,false),(.tmp 8,35,false)]:=fun _ _ _=>by kernel_rfl
def F88:FT88:=p88 F86 F131 F132
theorem ok88:OKP (en88 F88):=ST.ok0 (q88 F86 F131 F132) (Aa ok86 (Aa zwm (Aa ok132 Ab))) Tryz.func88
abbrev FT44:=(R:Type)→LI→Int→Int→LI→(Int→Int→Option R)→Option R
def en44 (F:FT44):Ent:=eV 44 [(.arr 32 (.int .u8)),(.int .i64),(.int .i64),(.sl (.int .u64))] [(.int .i64),(.int .i64)] F
def p44 (F42:FT42) (F43:FT43) (F88:FT88) (F89:FT89):FT44:=fun R a0 a1 a2 a3 k=>
F42 R a1 a2 fun y1=>
(match (!y1) with
|true=>k (0:Int) (1:Int)
|false=>F43 R a3 fun y2 y3=>
let v4:=y3 !=0;(match v4 with
|true=>k (0:Int) y3
|false=>F89 R a0 (1:Int) a1 fun y5=>
F88 R a3 y5 a2 fun y6 y7 y8=>
k y6 y8))
theorem q44 (F42:FT42) (F43:FT43) (F88:FT88) (F89:FT89):EQ (en44 (p44 F42 F43 F88 F89)) (sE 0 38 [] [en42 F42,en43 F43,en88 F88,en89 F89] []) Tryz.f44 [(.tmp 8,3,false),(.tmp 9,35,false)]:=fun _ _ _=>by kernel_rfl
def F44:FT44:=p44 F42 F43 F88 F89
theorem ok44:OKP (en44 F44):=ST.ok0 (q44 F42 F43 F88 F89) (Aa ok42 (Aa ok43 (Aa ok88 (Aa ok89 Ab)))) Tryz.func44
abbrev FT21:=(R:Type)→LI→Int→Int→LI→(LI→Int→Option R)→Option R
def en21 (F:FT21):Ent:=eV 21 [(.arr 32 (.int .u8)),(.int .i64),(.int .i64),(.sl (.int .u64))] [(.sl (.int .i64)),(.int .i64)] F
abbrev D21_8 (Z:Type):=Int→Int→LI→Int→LI→LI→Z
abbrev E21_8 (R:Type):=(LI→Option R)→Option R
abbrev Tp:=(R:Type)→D21_8 (E21_8 R)
def zng (L:Tp):LEnt:=lM 8 [.val 1 (.int .i64),.val 2 (.int .i64),.val 3 (.sl (.int .u64)),.fix 4 (.ptr 0 [] (.arr 32 (.int .u8))),.fix 12 (.own 2 0),.val 13 (.int .i64),.var 0 (.arr 32 (.int .u8)) false,.row 2 (.int .i64) false] 3 [(.exit 0,[.fix 12 (.own 2 0),.row 2 (.int .i64) false])] L
def e21 (F42:FT42) (F43:FT43) (F44:FT44) (L8:Tp):=sE 0 53 [(6,0)] [en42 F42,en43 F43,en44 F44] [zng L8]
def p21_8 (F44:FT44) (R:Type):D21_8 (D21_8 (Option R)→E21_8 R):=fun x1 x2 x3 x4 x5 x6 kc k0=>
let v7:=decide (x4<x1);(match v7 with
|true=>F44 R x5 x4 x2 x3 fun y8 y9=>
let v10:=y9 !=0;(match v10 with
|true=>let v11:=([(-1:Int)]:LI);(match (decide (x6.length+v11.length≤17592186044416)) with
|true=>let v12:=x6++v11;let v13:=IntKind.i64.wrap (x4+1);kc x1 x2 x3 v13 x5 v12
|false=>none)
|false=>let v14:=([y8]:LI);(match (decide (x6.length+v14.length≤17592186044416)) with
|true=>let v15:=x6++v14;let v16:=IntKind.i64.wrap (x4+1);kc x1 x2 x3 v16 x5 v15
|false=>none))
|false=>k0 x6)
theorem q21_8 (F42:FT42) (F43:FT43) (F44:FT44) (L8:Tp):LEQ (zng L8) (e21 F42 F43 F44 L8) Tryz.f21 (p21_8 F44):=fun _ _ _ _=>by kernel_rfl
def zdn:Nat→Tp
 | 0=>fun _ _ _ _ _ _ _ _=>none
 | n+1=>fun R x1 x2 x3 x4 x5 x6 k0=>p21_8 F44 R x1 x2 x3 x4 x5 x6 (fun x1 x2 x3 x4 x5 x6=>zdn n R x1 x2 x3 x4 x5 x6 k0) k0
def p21 (F42:FT42) (F43:FT43) (L8:Tp):FT21:=fun R a0 a1 a2 a3 k=>
let v1:=decide (a1<1);(match v1 with
|true=>k ([]:LI) (1:Int)
|false=>let v2:=IntKind.i64.wrap (a1 - 1);F42 R v2 a2 fun y3=>
(match (!y3) with
|true=>k ([]:LI) (1:Int)
|false=>F43 R a3 fun y4 y5=>
let v6:=y5 !=0;(match v6 with
|true=>k ([]:LI) y5
|false=>L8 R a1 a2 a3 (0:Int) a0 ([]:LI) (fun x7=>
k x7 (0:Int)))))
theorem q21 (F42:FT42) (F43:FT43) (F44:FT44) (L8:Tp):EQ (en21 (p21 F42 F43 L8)) (e21 F42 F43 F44 L8) Tryz.f21 [(.tmp 8,32,false),(.tmp 9,35,false)]:=fun _ _ _=>by kernel_rfl
def F21:FT21:=p21 F42 F43 (zdn FUEL)
theorem lok21_8:LKP (zng (zdn FUEL)) 0 53 8 Tryz.f21:=ST.lok (q21_8 F42 F43 F44 (zdn FUEL)) (Aa ok42 (Aa ok43 (Aa ok44 Ab))) [] trivial
theorem ok21:OKP (en21 F21):=ST.ok1 (q21 F42 F43 F44 (zdn FUEL)) (Aa ok42 (Aa ok43 (Aa ok44 Ab))) Tryz.func21 [8] ⟨⟨_,rfl,lok21_8⟩,trivial⟩
abbrev FT37:=(R:Type)→Tq29→(Tq29→Tq17→Option R)→Option R
def en37 (F:FT37):Ent:=eV 37 [Kq29] [Kq29,Kq17] F
def p37 (F21:FT21) (F22:FT22) (F34:FT34) (F78:FT78) (F79:FT79) (F80:FT80):FT37:=fun R a0 k=>
F78 R a0.1 a0.2.1 fun y1 y2=>
(match (!y2) with
|true=>let v3:=IntKind.u64.wrap y1;k (a0.1,y1,a0.2.2) ((0:Int),v3,([]:LI),(List.replicate 32 (0:Int)),())
|false=>F79 R a0.2.2.2.1 fun y4 y5 y6 y7=>
let v8:=y7 !=0;(match v8 with
|true=>F34 R y7 fun y9=>
k a0 y9
|false=>F80 R a0.2.2.1 fun y10=>
F22 R y10 fun y11=>
F21 R y4.2.1 a0.1.1 a0.1.2.2.2.1 y11 fun y12 y13=>
let v14:=IntKind.u64.wrap y1;k (a0.1,y1,y10,y4,y12,y6,a0.2.2.2.2.2.2) ((0:Int),v14,y6,y5.2.2.2.1,())))
theorem q37 (F21:FT21) (F22:FT22) (F34:FT34) (F78:FT78) (F79:FT79) (F80:FT80):EQ (en37 (p37 F21 F22 F34 F78 F79 F80)) (sE 0 72 [] [en21 F21,en22 F22,en34 F34,en78 F78,en79 F79,en80 F80] []) Tryz.f37 [(.cell 2 34,34,false),(.cell 3 44,44,false)]:=fun _ _ _=>by kernel_rfl
def F37:FT37:=p37 F21 F22 F34 F78 F79 F80
theorem ok37:OKP (en37 F37):=ST.ok0 (q37 F21 F22 F34 F78 F79 F80) (Aa ok21 (Aa ok22 (Aa ok34 (Aa ok78 (Aa ok79 (Aa ok80 Ab)))))) Tryz.func37
abbrev FT81:=(R:Type)→LI→(Int→Option R)→Option R
def en81 (F:FT81):Ent:=eV 81 [(.sl (.int .u64))] [(.int .i64)] F
abbrev D81_3 (Z:Type):=LI→Int→Int→Z
abbrev E81_3 (R:Type):=(Int→Option R)→Option R
abbrev Tc:=(R:Type)→D81_3 (E81_3 R)
def zm3 (L:Tc):LEnt:=lM 3 [.val 0 (.sl (.int .u64)),.val 3 (.int .i64),.val 4 (.int .i64)] 0 [(.exit 0,[.val 3 (.int .i64)])] L
def e81 (L3:Tc):=sE 0 19 [] [] [zm3 L3]
def p81_3 (R:Type):D81_3 (D81_3 (Option R)→E81_3 R):=fun x1 x2 x3 kc k0=>
let v4:=(x1.length:Int);let v5:=decide (x3<v4);(match v5 with
|true=>(match bnd x3 x1.length with
|true=>let v6:=x1.getD x3.toNat 0;let v7:=decide (v6>0);(match v7 with
|true=>let v8:=IntKind.i64.wrap (x2+1);let v9:=IntKind.i64.wrap (x3+1);kc x1 v8 v9
|false=>let v10:=IntKind.i64.wrap (x3+1);kc x1 x2 v10)
|false=>none)
|false=>k0 x2)
theorem q81_3 (L3:Tc):LEQ (zm3 L3) (e81 L3) Tryz.f81 p81_3:=fun _ _ _ _=>by kernel_rfl
def zda:Nat→Tc
 | 0=>fun _ _ _ _ _=>none
 | n+1=>fun R x1 x2 x3 k0=>p81_3 R x1 x2 x3 (fun x1 x2 x3=>zda n R x1 x2 x3 k0) k0
def p81 (L3:Tc):FT81:=fun R a0 k=>
L3 R a0 (0:Int) (0:Int) (fun x1=>
k x1)
theorem q81 (L3:Tc):EQ (en81 (p81 L3)) (e81 L3) Tryz.f81 [(.tmp 2,3,false)]:=fun _ _ _=>by kernel_rfl
def F81:FT81:=p81 (zda FUEL)
theorem lok81_3:LKP (zm3 (zda FUEL)) 0 19 3 Tryz.f81:=ST.lok (q81_3 (zda FUEL)) Ab [] trivial
theorem ok81:OKP (en81 F81):=ST.ok1 (q81 (zda FUEL)) Ab Tryz.func81 [3] ⟨⟨_,rfl,lok81_3⟩,trivial⟩
abbrev Pe:=(R:Type)→Int→Int→(Int→Bool→Option R)→Option R
def zzn (F:Pe):Ent:=eV 209 [(.int .u64),(.int .u64)] [(.int .u64),.bool] F
def p209:Pe:=fun R a0 a1 k=>
let v1:=a0==0;(match v1 with
|true=>k (0:Int) true
|false=>let v2:=a1==0;(match v2 with
|true=>k (0:Int) true
|false=>(match (!(a1==0)) with
|true=>let v3:=IntKind.u64.wrap (Int.tdiv (9223372036854775807:Int) a1);let v4:=decide (a0>v3);(match v4 with
|true=>k (0:Int) false
|false=>let v5:=IntKind.u64.wrap (a0*a1);k v5 true)
|false=>none)))
theorem q209:EQ (zzn p209) (sE 0 19 [] [] []) Tryz.f209 [(.tmp 4,28,false),(.tmp 5,4,false)]:=fun _ _ _=>by kernel_rfl
def F209:Pe:=p209
theorem zmd:OKP (zzn F209):=ST.ok0 q209 Ab Tryz.func209
abbrev zrn:=(R:Type)→LI→(Tq44→Int→Option R)→Option R
def en170 (F:zrn):Ent:=eV 170 [(.sl (.int .u64))] [Kq44,(.int .i64)] F
abbrev zfo (Z:Type):=LI→Int→Int→Int→Tq44→LI→(List Tq7)→LI→LI→Z
abbrev ztn (R:Type):=(Int→Tq44→LI→(List Tq7)→LI→LI→Option R)→Option R
abbrev Ha:=(R:Type)→zfo (ztn R)
def Uz (L:Ha):LEnt:=lM 16 [.val 0 (.sl (.int .u64)),.fix 2 (.ptr 0 [] Kq44),.val 4 (.int .u64),.val 6 (.int .u64),.fix 9 (.own 1 0),.fix 10 (.own 2 0),.fix 11 (.own 3 0),.fix 12 (.own 4 0),.val 13 (.int .i64),.var 0 Kq44 false,.row 1 (.int .u64) false,.row 2 Kq7 false,.row 3 (.int .i64) false,.row 4 (.int .i64) false] 5 [(.exit 0,[.fix 2 (.ptr 0 [] Kq44),.val 4 (.int .u64),.fix 9 (.own 1 0),.fix 10 (.own 2 0),.fix 11 (.own 3 0),.fix 12 (.own 4 0),.var 0 Kq44 false,.row 1 (.int .u64) false,.row 2 Kq7 false,.row 3 (.int .i64) false,.row 4 (.int .i64) false])] L
abbrev zfn (Z:Type):=Int→Tq44→LI→(List Tq7)→LI→LI→Z
abbrev ztm (R:Type):=(Int→Tq44→(List Tq7)→Option R)→Option R
abbrev G9:=(R:Type)→zfn (ztm R)
def Uy (L:G9):LEnt:=lM 23 [.fix 2 (.ptr 0 [] Kq44),.val 4 (.int .u64),.fix 9 (.own 1 0),.fix 10 (.own 2 0),.fix 11 (.own 3 0),.fix 12 (.own 4 0),.var 0 Kq44 false,.row 1 (.int .u64) false,.row 2 Kq7 false,.row 3 (.int .i64) false,.row 4 (.int .i64) false] 5 [(.exit 2,[.fix 2 (.ptr 0 [] Kq44),.val 4 (.int .u64),.fix 10 (.own 2 0),.var 0 Kq44 false,.row 2 Kq7 false])] L
def e170 (F86:FT86) (F209:Pe) (L16:Ha) (L23:G9):=sE 0 154 [(14,0),(14,1),(25,4),(25,9)] [en86 F86,zzn F209] [Uz L16,Uy L23]
def zaa (R:Type):zfo (zfo (Option R)→ztn R):=fun x1 x2 x3 x4 x5 x6 x7 x8 x9 kc k0=>
let v10:=(x1.length:Int);let v11:=decide (x4<v10);(match v11 with
|true=>(match bnd x4 x1.length with
|true=>let v12:=x1.getD x4.toNat 0;let v13:=IntKind.u64.wrap (x3*v12);(match bnd x4 x6.length with
|true=>let v14:=x6.set x4.toNat v13;(match bnd x4 x7.length with
|true=>let v15:=x7.set x4.toNat (x2,x4,());(match bnd x4 v14.length with
|true=>let v16:=v14.getD x4.toNat 0;let v17:=decide (v16<x2);(match v17 with
|true=>let v18:=([x4]:LI);(match (decide (x8.length+v18.length≤17592186044416)) with
|true=>let v19:=x8++v18;let v20:=IntKind.i64.wrap (x4+1);kc x1 x2 x3 v20 x5 v14 v15 v19 x9
|false=>none)
|false=>let v21:=([x4]:LI);(match (decide (x9.length+v21.length≤17592186044416)) with
|true=>let v22:=x9++v21;let v23:=IntKind.i64.wrap (x4+1);kc x1 x2 x3 v23 x5 v14 v15 x8 v22
|false=>none))
|false=>none)
|false=>none)
|false=>none)
|false=>none)
|false=>k0 x2 x5 x6 x7 x8 x9)
theorem q170_16 (F86:FT86) (F209:Pe) (L16:Ha) (L23:G9):LEQ (Uz L16) (e170 F86 F209 L16 L23) Tryz.f170 zaa:=fun _ _ _ _=>by kernel_rfl
def Is:Nat→Ha
 | 0=>fun _ _ _ _ _ _ _ _ _ _ _=>none
 | n+1=>fun R x1 x2 x3 x4 x5 x6 x7 x8 x9 k0=>zaa R x1 x2 x3 x4 x5 x6 x7 x8 x9 (fun x1 x2 x3 x4 x5 x6 x7 x8 x9=>Is n R x1 x2 x3 x4 x5 x6 x7 x8 x9 k0) k0
def Z9 (R:Type):zfn (zfn (Option R)→ztm R):=fun x1 x2 x3 x4 x5 x6 kc k0=>
let v7:=(x5.length:Int);let v8:=decide (v7>0);(match v8 with
|true=>let v9:=(x6.length:Int);let v10:=decide (v9>0);(match v10 with
|true=>let v11:=(x5.length:Int);let v12:=IntKind.i64.wrap (v11 - 1);(match bnd v12 x5.length with
|true=>let v13:=x5.getD v12.toNat 0;let v14:=(x6.length:Int);let v15:=IntKind.i64.wrap (v14 - 1);(match bnd v15 x6.length with
|true=>let v16:=x6.getD v15.toNat 0;let v17:=(x5.length:Int);let v18:=IntKind.i64.wrap (v17 - 1);(match (decide (0≤v18∧v18≤(x5.length:Int))) with
|true=>let v19:=List.take v18.toNat x5;let v20:=(x6.length:Int);let v21:=IntKind.i64.wrap (v20 - 1);(match (decide (0≤v21∧v21≤(x6.length:Int))) with
|true=>let v22:=List.take v21.toNat x6;(match bnd v13 x3.length with
|true=>let v23:=x3.getD v13.toNat 0;(match bnd v13 x4.length with
|true=>let v24:=x4.set v13.toNat (v23,v16,());(match bnd v16 x3.length with
|true=>let v25:=x3.getD v16.toNat 0;(match bnd v13 x3.length with
|true=>let v26:=x3.getD v13.toNat 0;let v27:=IntKind.u64.wrap (x1 - v26);let v28:=IntKind.u64.wrap (v25 - v27);(match bnd v16 x3.length with
|true=>let v29:=x3.set v16.toNat v28;(match bnd v16 v29.length with
|true=>let v30:=v29.getD v16.toNat 0;let v31:=decide (v30<x1);(match v31 with
|true=>let v32:=([v16]:LI);(match (decide (v19.length+v32.length≤17592186044416)) with
|true=>let v33:=v19++v32;kc x1 x2 v29 v24 v33 v22
|false=>none)
|false=>let v34:=([v16]:LI);(match (decide (v22.length+v34.length≤17592186044416)) with
|true=>let v35:=v22++v34;kc x1 x2 v29 v24 v19 v35
|false=>none))
|false=>none)
|false=>none)
|false=>none)
|false=>none)
|false=>none)
|false=>none)
|false=>none)
|false=>none)
|false=>none)
|false=>none)
|false=>k0 x1 x2 x4)
|false=>k0 x1 x2 x4)
theorem q170_23 (F86:FT86) (F209:Pe) (L16:Ha) (L23:G9):LEQ (Uy L23) (e170 F86 F209 L16 L23) Tryz.f170 Z9:=fun _ _ _ _=>by kernel_rfl
def Hc:Nat→G9
 | 0=>fun _ _ _ _ _ _ _ _=>none
 | n+1=>fun R x1 x2 x3 x4 x5 x6 k0=>Z9 R x1 x2 x3 x4 x5 x6 (fun x1 x2 x3 x4 x5 x6=>Hc n R x1 x2 x3 x4 x5 x6 k0) k0
def p170 (F86:FT86) (F209:Pe) (L16:Ha) (L23:G9):zrn:=fun R a0 k=>
let v1:=(a0.length:Int);let v2:=v1==0;(match v2 with
|true=>k ((0:Int),([]:(List Tq7)),()) (10:Int)
|false=>F86 R a0 fun y3 y4=>
(match (!y4) with
|true=>k ((0:Int),([]:(List Tq7)),()) (11:Int)
|false=>let v5:=y3==0;(match v5 with
|true=>k ((0:Int),([]:(List Tq7)),()) (10:Int)
|false=>let v6:=(a0.length:Int);let v7:=IntKind.u64.wrap v6;F209 R v7 y3 fun y8 y9=>
(match (!y9) with
|true=>k ((0:Int),([]:(List Tq7)),()) (11:Int)
|false=>let v10:=(a0.length:Int);(match (decide (0≤v10∧v10≤v10∧v10≤17592186044416)) with
|true=>let v11:=List.replicate v10.toNat (0:Int);let v12:=(a0.length:Int);(match (decide (0≤v12∧v12≤v12∧v12≤8796093022208)) with
|true=>let v13:=List.replicate v12.toNat ((0:Int),(0:Int),());L16 R a0 y3 v7 (0:Int) ((0:Int),([]:(List Tq7)),()) v11 v13 ([]:LI) ([]:LI) (fun x14 x15 x16 x17 x18 x19=>
L23 R x14 x15 x16 x17 x18 x19 (fun x20 x21 x22=>
k (x20,x22,()) (0:Int)))
|false=>none)
|false=>none)))))
theorem q170 (F86:FT86) (F209:Pe) (L16:Ha) (L23:G9):EQ (en170 (p170 F86 F209 L16 L23)) (e170 F86 F209 L16 L23) Tryz.f170 [(.cell 2 215,215,false),(.tmp 3,35,false)]:=fun _ _ _=>by kernel_rfl
def F170:zrn:=p170 F86 F209 (Is FUEL) (Hc FUEL)
theorem zms:LKP (Uz (Is FUEL)) 0 154 16 Tryz.f170:=ST.lok (q170_16 F86 F209 (Is FUEL) (Hc FUEL)) (Aa ok86 (Aa zmd Ab)) [] trivial
theorem zmr:LKP (Uy (Hc FUEL)) 0 154 23 Tryz.f170:=ST.lok (q170_23 F86 F209 (Is FUEL) (Hc FUEL)) (Aa ok86 (Aa zmd Ab)) [] trivial
theorem ok170:OKP (en170 F170):=ST.ok1 (q170 F86 F209 (Is FUEL) (Hc FUEL)) (Aa ok86 (Aa zmd Ab)) Tryz.func170 [16,23] ⟨⟨_,rfl,zms⟩,⟨⟨_,rfl,zmr⟩,trivial⟩⟩
abbrev R4:=(R:Type)→Tq44→(Bool→Option R)→Option R
def zi2 (F:R4):Ent:=eV 210 [Kq44] [.bool] F
abbrev zuc (Z:Type):=Int→Tq44→Z
abbrev E210_6 (R:Type):=(Bool→Option R)→(Option R)→Option R
abbrev Nb:=(R:Type)→zuc (E210_6 R)
def zbd (L:Nb):LEnt:=lM 6 [.fix 1 (.ptr 0 [] Kq44),.val 6 (.int .i64),.var 0 Kq44 false] 1 [(.ret,[.val 2 .bool]),(.exit 0,[])] L
def e210 (F209:Pe) (L6:Nb):=sE 0 60 [] [zzn F209] [zbd L6]
def zlc (R:Type):zuc (zuc (Option R)→E210_6 R):=fun x1 x2 kc k0 k1=>
let v3:=(x2.2.1.length:Int);let v4:=decide (x1<v3);(match v4 with
|true=>(match bnd x1 x2.2.1.length with
|true=>let v5:=x2.2.1.getD x1.toNat (0,0,());let v6:=decide (v5.1>x2.1);(match v6 with
|true=>k0 false
|false=>let v7:=decide (v5.2.1<0);(match v7 with
|true=>k0 false
|false=>let v8:=(x2.2.1.length:Int);let v9:=decide (v5.2.1≥v8);(match v9 with
|true=>k0 false
|false=>let v10:=IntKind.i64.wrap (x1+1);kc v10 x2)))
|false=>none)
|false=>k1)
theorem q210_6 (F209:Pe) (L6:Nb):LEQ (zbd L6) (e210 F209 L6) Tryz.f210 zlc:=fun _ _ _ _=>by kernel_rfl
def Rc:Nat→Nb
 | 0=>fun _ _ _ _ _=>none
 | n+1=>fun R x1 x2 k0 k1=>zlc R x1 x2 (fun x1 x2=>Rc n R x1 x2 k0 k1) k0 k1
def p210 (F209:Pe) (L6:Nb):R4:=fun R a0 k=>
let v1:=(a0.2.1.length:Int);let v2:=IntKind.u64.wrap v1;F209 R v2 a0.1 fun y3 y4=>
let v5:=v2==0;(match v5 with
|true=>k false
|false=>let v6:=a0.1==0;(match v6 with
|true=>k false
|false=>(match (!y4) with
|true=>k false
|false=>L6 R (0:Int) a0 (fun x7=>
k x7) (k true))))
theorem q210 (F209:Pe) (L6:Nb):EQ (zi2 (p210 F209 L6)) (e210 F209 L6) Tryz.f210 [(.tmp 2,4,false)]:=fun _ _ _=>by kernel_rfl
def F210:R4:=p210 F209 (Rc FUEL)
theorem zxg:LKP (zbd (Rc FUEL)) 0 60 6 Tryz.f210:=ST.lok (q210_6 F209 (Rc FUEL)) (Aa zmd Ab) [] trivial
theorem zwe:OKP (zi2 F210):=ST.ok1 (q210 F209 (Rc FUEL)) (Aa zmd Ab) Tryz.func210 [6] ⟨⟨_,rfl,zxg⟩,trivial⟩
abbrev zej:=(R:Type)→Tq44→(Int→Option R)→Option R
def zzm (F:zej):Ent:=eV 211 [Kq44] [(.int .u64)] F
def p211 (F210:R4):zej:=fun R a0 k=>
F210 R a0 fun y1=>
(match (!y1) with
|true=>k (0:Int)
|false=>let v2:=(a0.2.1.length:Int);let v3:=IntKind.u64.wrap v2;let v4:=IntKind.u64.wrap (v3*a0.1);k v4)
theorem q211 (F210:R4):EQ (zzm (p211 F210)) (sE 0 13 [] [zi2 F210] []) Tryz.f211 [(.tmp 2,28,false)]:=fun _ _ _=>by kernel_rfl
def F211:zej:=p211 F210
theorem ok211:OKP (zzm F211):=ST.ok0 (q211 F210) (Aa zwe Ab) Tryz.func211
abbrev zq2:=(R:Type)→Tq44→Int→Int→(Int→Int→Option R)→Option R
def en245 (F:zq2):Ent:=eV 245 [Kq44,(.int .i64),(.int .u64)] [(.int .i64),(.int .i64)] F
def p245 (F210:R4):zq2:=fun R a0 a1 a2 k=>
F210 R a0 fun y1=>
(match (!y1) with
|true=>k (0:Int) (1:Int)
|false=>let v2:=decide (a1<0);(match v2 with
|true=>k (0:Int) (3:Int)
|false=>let v3:=(a0.2.1.length:Int);let v4:=decide (a1≥v3);(match v4 with
|true=>k (0:Int) (3:Int)
|false=>let v5:=decide (a2≥a0.1);(match v5 with
|true=>k (0:Int) (3:Int)
|false=>(match bnd a1 a0.2.1.length with
|true=>let v6:=(a0.2.1.getD a1.toNat (0,0,())).1;let v7:=decide (a2<v6);(match v7 with
|true=>k a1 (0:Int)
|false=>(match bnd a1 a0.2.1.length with
|true=>let v8:=(a0.2.1.getD a1.toNat (0,0,())).2.1;k v8 (0:Int)
|false=>none))
|false=>none)))))
theorem q245 (F210:R4):EQ (en245 (p245 F210)) (sE 0 41 [] [zi2 F210] []) Tryz.f245 [(.tmp 6,3,false),(.tmp 7,35,false)]:=fun _ _ _=>by kernel_rfl
def F245:zq2:=p245 F210
theorem ok245:OKP (en245 F245):=ST.ok0 (q245 F210) (Aa zwe Ab) Tryz.func245
abbrev zrd:=(R:Type)→Tq44→Int→(Int→Int→Option R)→Option R
def en212 (F:zrd):Ent:=eV 212 [Kq44,(.int .u64)] [(.int .i64),(.int .i64)] F
def p212 (F210:R4) (F211:zej) (F245:zq2):zrd:=fun R a0 a1 k=>
F210 R a0 fun y1=>
(match (!y1) with
|true=>k (0:Int) (1:Int)
|false=>F211 R a0 fun y2=>
let v3:=decide (a1≥y2);(match v3 with
|true=>k (0:Int) (3:Int)
|false=>(match (!(a0.1==0)) with
|true=>let v4:=IntKind.u64.wrap (Int.tdiv a1 a0.1);let v5:=IntKind.i64.wrap v4;(match (!(a0.1==0)) with
|true=>let v6:=Int.tmod a1 a0.1;F245 R a0 v5 v6 fun y7 y8=>
k y7 y8
|false=>none)
|false=>none)))
theorem q212 (F210:R4) (F211:zej) (F245:zq2):EQ (en212 (p212 F210 F211 F245)) (sE 0 26 [] [zi2 F210,zzm F211,en245 F245] []) Tryz.f212 [(.tmp 4,3,false),(.tmp 5,35,false)]:=fun _ _ _=>by kernel_rfl
def F212:zrd:=p212 F210 F211 F245
theorem ok212:OKP (en212 F212):=ST.ok0 (q212 F210 F211 F245) (Aa zwe (Aa ok211 (Aa ok245 Ab))) Tryz.func212
abbrev zrm:=(R:Type)→Tq44→Tq40→Int→(Int→Tq40→Int→Option R)→Option R
def en171 (F:zrm):Ent:=eV 171 [Kq44,Kq40,(.int .i64)] [(.int .i64),Kq40,(.int .i64)] F
def p171 (F131:Pf) (F210:R4) (F211:zej) (F212:zrd):zrm:=fun R a0 a1 a2 k=>
F210 R a0 fun y1=>
(match (!y1) with
|true=>k (0:Int) a1 (1:Int)
|false=>F211 R a0 fun y2=>
F131 R a1 y2 a2 fun y3 y4 y5=>
let v6:=y5 !=0;(match v6 with
|true=>k (0:Int) y4 y5
|false=>F212 R a0 y3 fun y7 y8=>
k y7 y4 (0:Int)))
theorem q171 (F131:Pf) (F210:R4) (F211:zej) (F212:zrd):EQ (en171 (p171 F131 F210 F211 F212)) (sE 0 39 [] [zi5 F131,zi2 F210,zzm F211,en212 F212] []) Tryz.f171 [(.tmp 6,3,false),(.cell 7 132,132,false),(.tmp 8,35,false)]:=fun _ _ _=>by kernel_rfl
def F171:zrm:=p171 F131 F210 F211 F212
theorem ok171:OKP (en171 F171):=ST.ok0 (q171 F131 F210 F211 F212) (Aa zwm (Aa zwe (Aa ok211 (Aa ok212 Ab)))) Tryz.func171
abbrev zr1:=(R:Type)→LI→Tq40→Int→(Int→Tq40→Int→Option R)→Option R
def en125 (F:zr1):Ent:=eV 125 [(.sl (.int .u64)),Kq40,(.int .i64)] [(.int .i64),Kq40,(.int .i64)] F
def p125 (F170:zrn) (F171:zrm):zr1:=fun R a0 a1 a2 k=>
F170 R a0 fun y1 y2=>
let v3:=y2 !=0;(match v3 with
|true=>k (0:Int) a1 y2
|false=>F171 R y1 a1 a2 fun y4 y5 y6=>
k y4 y5 y6)
theorem q125 (F170:zrn) (F171:zrm):EQ (en125 (p125 F170 F171)) (sE 0 27 [] [en170 F170,en171 F171] []) Tryz.f125 [(.tmp 6,3,false),(.cell 7 132,132,false),(.tmp 8,35,false)]:=fun _ _ _=>by kernel_rfl
def F125:zr1:=p125 F170 F171
theorem ok125:OKP (en125 F125):=ST.ok0 (q125 F170 F171) (Aa ok170 (Aa ok171 Ab)) Tryz.func125
abbrev FT82:=(R:Type)→LI→Int→Int→LI→(Int→Int→Option R)→Option R
def en82 (F:FT82):Ent:=eV 82 [(.arr 32 (.int .u8)),(.int .i64),(.int .i64),(.sl (.int .u64))] [(.int .i64),(.int .i64)] F
def p82 (F42:FT42) (F89:FT89) (F125:zr1):FT82:=fun R a0 a1 a2 a3 k=>
F42 R a1 a2 fun y1=>
(match (!y1) with
|true=>k (0:Int) (1:Int)
|false=>F89 R a0 (2:Int) a1 fun y2=>
F125 R a3 y2 a2 fun y3 y4 y5=>
k y3 y5)
theorem q82 (F42:FT42) (F89:FT89) (F125:zr1):EQ (en82 (p82 F42 F89 F125)) (sE 0 29 [] [en42 F42,en89 F89,en125 F125] []) Tryz.f82 [(.tmp 8,3,false),(.tmp 9,35,false)]:=fun _ _ _=>by kernel_rfl
def F82:FT82:=p82 F42 F89 F125
theorem ok82:OKP (en82 F82):=ST.ok0 (q82 F42 F89 F125) (Aa ok42 (Aa ok89 (Aa ok125 Ab))) Tryz.func82
abbrev zr0:=(R:Type)→LI→Int→Tq40→Int→(LI→Tq40→Int→Option R)→Option R
def en126 (F:zr0):Ent:=eV 126 [(.sl (.int .u64)),(.int .i64),Kq40,(.int .i64)] [(.sl (.int .i64)),Kq40,(.int .i64)] F
abbrev zu6 (Z:Type):=Int→Int→Tq40→Tq40→LI→LI→Z
abbrev E126_7 (R:Type):=(Int→Tq40→Option R)→(Tq40→Tq40→LI→Option R)→Option R
abbrev Nw:=(R:Type)→zu6 (E126_7 R)
def zb7 (L:Nw):LEnt:=lM 7 [.val 1 (.int .i64),.val 3 (.int .i64),.fix 6 (.ptr 0 [] Kq40),.fix 9 (.ptr 1 [] Kq40),.fix 11 (.own 2 0),.fix 12 (.own 3 0),.var 0 Kq40 false,.var 1 Kq40 false,.row 2 (.int .u64) false,.row 3 (.int .i64) false] 4 [(.ret,[.fix 8 .nil,.fix 9 (.ptr 1 [] Kq40),.val 10 (.int .i64),.var 1 Kq40 false]),(.exit 0,[.fix 6 (.ptr 0 [] Kq40),.fix 9 (.ptr 1 [] Kq40),.fix 12 (.own 3 0),.var 0 Kq40 false,.var 1 Kq40 false,.row 3 (.int .i64) false])] L
def e88i0 (F86:FT86) (F131:Pf) (F132:Sl) (R:Type):Env R:=⟨TT,EQT,0,47,Bu [],Bc [en86 F86,zi5 F131,zol F132] R,fun _ _ _=>none,[],Be [],[]⟩
theorem env88i0 (R:Type):A4 Tryz.prog (e88i0 F86 F131 F132 R):=⟨tabOK,eqOK,Aq (Aa ok86 (Aa zwm (Aa ok132 Ab))),B0,Al⟩
def e126 (F81:FT81) (F86:FT86) (F131:Pf) (F132:Sl) (F172:Iu) (L7:Nw) (R:Type):Env R:=⟨TT,EQT,0,70,Bu [(5,0),(6,0),(8,3)],Bc [en81 F81,en86 F86,zi5 F131,zol F132,zi3 F172] R,Bm [zb7 L7] R,[],Be [(88,xinl (e88i0 F86 F131 F132 R) (Ah Tryz.f88) [.tmp 6,.cell 7 132,.tmp 8] 3)],[]⟩
def zgo (F86:FT86) (F131:Pf) (F132:Sl) (R:Type):zu6 (zu6 (Option R)→E126_7 R):=fun x1 x2 x3 x4 x5 x6 kc k0 k1=>
let v7:=(x6.length:Int);let v8:=decide (v7<x1);(match v8 with
|true=>F86 R x5 fun y9 y10=>
(match (!y10) with
|true=>k0 (11:Int) x3
|false=>let v11:=y9==0;(match v11 with
|true=>k0 (10:Int) x3
|false=>F131 R x3 y9 x2 fun y12 y13 y14=>
let v15:=y14 !=0;(match v15 with
|true=>let v16:=y14 !=0;(match v16 with
|true=>k0 y14 y13
|false=>(match bnd 0 x5.length with
|true=>let v17:=x5.set 0 (0:Int);let v18:=([(0:Int)]:LI);(match (decide (x6.length+v18.length≤17592186044416)) with
|true=>let v19:=x6++v18;kc x1 x2 y13 x4 v17 v19
|false=>none)
|false=>none))
|false=>F132 R x5 y12 fun y20 y21=>
(match bnd y20 x5.length with
|true=>let v22:=x5.set y20.toNat (0:Int);let v23:=([y20]:LI);(match (decide (x6.length+v23.length≤17592186044416)) with
|true=>let v24:=x6++v23;kc x1 x2 y13 x4 v22 v24
|false=>none)
|false=>none))))
|false=>k1 x3 x4 x6)
theorem q126_7 (F81:FT81) (F86:FT86) (F131:Pf) (F132:Sl) (F172:Iu) (L7:Nw):LEQ (zb7 L7) (e126 F81 F86 F131 F132 F172 L7) Tryz.f126 (zgo F86 F131 F132):=fun _ _ _ _=>by kernel_rfl
def Jj:Nat→Nw
 | 0=>fun _ _ _ _ _ _ _ _ _=>none
 | n+1=>fun R x1 x2 x3 x4 x5 x6 k0 k1=>zgo F86 F131 F132 R x1 x2 x3 x4 x5 x6 (fun x1 x2 x3 x4 x5 x6=>Jj n R x1 x2 x3 x4 x5 x6 k0 k1) k0 k1
def p126 (F81:FT81) (F172:Iu) (L7:Nw):zr0:=fun R a0 a1 a2 a3 k=>
let v1:=decide (a1<0);(match v1 with
|true=>k ([]:LI) a2 (1:Int)
|false=>let v2:=decide (a1>256);(match v2 with
|true=>k ([]:LI) a2 (1:Int)
|false=>F172 R a2 fun y3=>
(match (!y3) with
|true=>k ([]:LI) a2 (1:Int)
|false=>let v4:=decide (a3<1);(match v4 with
|true=>k ([]:LI) a2 (1:Int)
|false=>let v5:=decide (a3>64);(match v5 with
|true=>k ([]:LI) a2 (1:Int)
|false=>F81 R a0 fun y6=>
let v7:=decide (y6<a1);(match v7 with
|true=>k ([]:LI) a2 (12:Int)
|false=>let v8:=([]:LI);(match (decide (v8.length+a0.length≤17592186044416)) with
|true=>let v9:=v8++a0;L7 R a1 a3 a2 ((0:Int),([]:LI),(0:Int),(List.replicate 32 (0:Int)),(0:Int),(0:Int),()) v9 ([]:LI) (fun x10 x11=>
k ([]:LI) x11 x10) (fun x12 x13 x14=>
k x14 x12 (0:Int))
|false=>none)))))))
theorem q126 (F81:FT81) (F86:FT86) (F131:Pf) (F132:Sl) (F172:Iu) (L7:Nw):EQ (en126 (p126 F81 F172 L7)) (e126 F81 F86 F131 F132 F172 L7) Tryz.f126 [(.tmp 8,32,false),(.cell 9 132,132,false),(.tmp 10,35,false)]:=fun _ _ _=>by kernel_rfl
def F126:zr0:=p126 F81 F172 (Jj FUEL)
theorem env126 (R:Type):A4 Tryz.prog (e126 F81 F86 F131 F132 F172 (Jj FUEL) R):=⟨tabOK,eqOK,Aq (Aa ok81 (Aa ok86 (Aa zwm (Aa ok132 (Aa zig Ab))))),B0,(A9 (Bb (env88i0 R) mixed Tryz.func88 (body:=Ah Tryz.f88) (by kernel_rfl) (by kernel_rfl) (by kernel_rfl) (res:=[.tmp 6,.cell 7 132,.tmp 8]) (by kernel_rfl) (n:=3) (Nat.le_of_ble_eq_true rfl) (by kernel_rfl)) Al)⟩
theorem zyb:LKP (zb7 (Jj FUEL)) 0 70 7 Tryz.f126:=ST.lok3 (q126_7 F81 F86 F131 F132 F172 (Jj FUEL)) env126 (fun _=>rfl) (fun _=>rfl) (fun _=>rfl) [] trivial
theorem ok126:OKP (en126 F126):=ST.ok3 (q126 F81 F86 F131 F132 F172 (Jj FUEL)) env126 Tryz.func126 (fun _=>rfl) (fun _=>rfl) (fun _=>rfl) [7] ⟨⟨_,rfl,zyb⟩,trivial⟩
abbrev FT83:=(R:Type)→LI→Int→Int→Int→LI→(LI→Int→Option R)→Option R
def en83 (F:FT83):Ent:=eV 83 [(.arr 32 (.int .u8)),(.int .i64),(.int .i64),(.int .i64),(.sl (.int .u64))] [(.sl (.int .i64)),(.int .i64)] F
def p83 (F42:FT42) (F43:FT43) (F89:FT89) (F126:zr0):FT83:=fun R a0 a1 a2 a3 a4 k=>
F42 R a1 a3 fun y1=>
(match (!y1) with
|true=>k ([]:LI) (1:Int)
|false=>F43 R a4 fun y2 y3=>
let v4:=y3 !=0;(match v4 with
|true=>k ([]:LI) y3
|false=>F89 R a0 (3:Int) a1 fun y5=>
F126 R a4 a2 y5 a3 fun y6 y7 y8=>
k y6 y8))
theorem q83 (F42:FT42) (F43:FT43) (F89:FT89) (F126:zr0):EQ (en83 (p83 F42 F43 F89 F126)) (sE 0 41 [] [en42 F42,en43 F43,en89 F89,en126 F126] []) Tryz.f83 [(.tmp 10,32,false),(.tmp 11,35,false)]:=fun _ _ _=>by kernel_rfl
def F83:FT83:=p83 F42 F43 F89 F126
theorem ok83:OKP (en83 F83):=ST.ok0 (q83 F42 F43 F89 F126) (Aa ok42 (Aa ok43 (Aa ok89 (Aa ok126 Ab)))) Tryz.func83
abbrev FT38:=(R:Type)→Tq29→Tq13→(Tq17→Option R)→Option R
def en38 (F:FT38):Ent:=eV 38 [Kq29,Kq13] [Kq17] F
def p38 (F22:FT22) (F34:FT34) (F44:FT44) (F74:FT74) (F81:FT81) (F82:FT82) (F83:FT83):FT38:=fun R a0 a1 k=>
F22 R a0.2.2.1 fun y1=>
let v2:=a1.1==10;(match v2 with
|true=>F74 R a0 a1.2.1 fun y3=>
(match (!y3) with
|true=>F34 R (5:Int) fun y4=>
k y4
|false=>let v5:=a1.2.2.2.2.1==0;(match v5 with
|true=>(match bnd a1.2.1 a0.2.2.1.length with
|true=>let v6:=(a0.2.2.1.getD a1.2.1.toNat ((List.replicate 32 0),0,0,())).2.1;k ((0:Int),v6,([]:LI),(List.replicate 32 (0:Int)),())
|false=>none)
|false=>(match bnd a1.2.1 a0.2.2.1.length with
|true=>let v7:=(a0.2.2.1.getD a1.2.1.toNat ((List.replicate 32 0),0,0,())).2.2.1;k ((0:Int),v7,([]:LI),(List.replicate 32 (0:Int)),())
|false=>none)))
|false=>let v8:=a1.1==11;(match v8 with
|true=>k ((0:Int),a0.2.2.2.1.1,([]:LI),a0.2.2.2.1.2.1,())
|false=>let v9:=decide (a1.2.2.2.2.1≥a0.1.1);(match v9 with
|true=>F34 R (3:Int) fun y10=>
k y10
|false=>let v11:=a1.1==7;(match v11 with
|true=>F81 R y1 fun y12=>
let v13:=y12==0;(match v13 with
|true=>F34 R (10:Int) fun y14=>
k y14
|false=>F44 R a0.2.2.2.1.2.1 a1.2.2.2.2.1 a0.1.2.2.2.1 y1 fun y15 y16=>
let v17:=([y15]:LI);let v18:=y16 !=0;(match v18 with
|true=>F34 R y16 fun y19=>
k y19
|false=>k ((0:Int),(0:Int),v17,(List.replicate 32 (0:Int)),())))
|false=>let v20:=a1.1==8;(match v20 with
|true=>F82 R a0.2.2.2.1.2.1 a1.2.2.2.2.1 a0.1.2.2.2.1 y1 fun y21 y22=>
let v23:=([y21]:LI);let v24:=y22 !=0;(match v24 with
|true=>F34 R y22 fun y25=>
k y25
|false=>k ((0:Int),(0:Int),v23,(List.replicate 32 (0:Int)),()))
|false=>F83 R a0.2.2.2.1.2.1 a1.2.2.2.2.1 a1.2.1 a0.1.2.2.2.1 y1 fun y26 y27=>
let v28:=y27 !=0;(match v28 with
|true=>F34 R y27 fun y29=>
k y29
|false=>k ((0:Int),(0:Int),y26,(List.replicate 32 (0:Int)),())))))))
theorem q38 (F22:FT22) (F34:FT34) (F44:FT44) (F74:FT74) (F81:FT81) (F82:FT82) (F83:FT83):EQ (en38 (p38 F22 F34 F44 F74 F81 F82 F83)) (sE 0 123 [] [en22 F22,en34 F34,en44 F44,en74 F74,en81 F81,en82 F82,en83 F83] []) Tryz.f38 [(.cell 4 44,44,false)]:=fun _ _ _=>by kernel_rfl
def F38:FT38:=p38 F22 F34 F44 F74 F81 F82 F83
theorem ok38:OKP (en38 F38):=ST.ok0 (q38 F22 F34 F44 F74 F81 F82 F83) (Aa ok22 (Aa ok34 (Aa ok44 (Aa ok74 (Aa ok81 (Aa ok82 (Aa ok83 Ab))))))) Tryz.func38
abbrev FT14:=(R:Type)→Tq29→Tq13→(Tq29→Tq17→Option R)→Option R
def en14 (F:FT14):Ent:=eV 14 [Kq29,Kq13] [Kq29,Kq17] F
def p14 (F33:FT33) (F34:FT34) (F35:FT35) (F36:FT36) (F37:FT37) (F38:FT38):FT14:=fun R a0 a1 k=>
F33 R a1 fun y1=>
(match (!y1) with
|true=>F34 R (2:Int) fun y2=>
k a0 y2
|false=>let v3:=a1.1==1;(match v3 with
|true=>F35 R a0 a1 fun y4 y5=>
k y4 y5
|false=>let v6:=a1.1==2;(match v6 with
|true=>F35 R a0 a1 fun y7 y8=>
k y7 y8
|false=>let v9:=a1.1==3;(match v9 with
|true=>F35 R a0 a1 fun y10 y11=>
k y10 y11
|false=>let v12:=a1.1==4;(match v12 with
|true=>F36 R a0 a1 fun y13 y14=>
k y13 y14
|false=>let v15:=a1.1==5;(match v15 with
|true=>F36 R a0 a1 fun y16 y17=>
k y16 y17
|false=>let v18:=a1.1==6;(match v18 with
|true=>F37 R a0 fun y19 y20=>
k y19 y20
|false=>let v21:=a1.1==0;(match v21 with
|true=>F34 R (2:Int) fun y22=>
k a0 y22
|false=>F38 R a0 a1 fun y23=>
k a0 y23))))))))
theorem q14 (F33:FT33) (F34:FT34) (F35:FT35) (F36:FT36) (F37:FT37) (F38:FT38):EQ (en14 (p14 F33 F34 F35 F36 F37 F38)) (sE 0 44 [] [en33 F33,en34 F34,en35 F35,en36 F36,en37 F37,en38 F38] []) Tryz.f14 [(.cell 4 34,34,false),(.cell 5 44,44,false)]:=fun _ _ _=>by kernel_rfl
def F14:FT14:=p14 F33 F34 F35 F36 F37 F38
theorem ok14:OKP (en14 F14):=ST.ok0 (q14 F33 F34 F35 F36 F37 F38) (Aa ok33 (Aa ok34 (Aa ok35 (Aa ok36 (Aa ok37 (Aa ok38 Ab)))))) Tryz.func14
abbrev FT15:=(R:Type)→Tq17→Tq17→(Bool→Option R)→Option R
def en15 (F:FT15):Ent:=eV 15 [Kq17,Kq17] [.bool] F
def p15 (F20:FT20):FT15:=fun R a0 a1 k=>
let v1:=a0.1==a1.1;(match v1 with
|true=>let v2:=a0.2.1==a1.2.1;(match v2 with
|true=>F20 R a0.2.2.1 a1.2.2.1 fun y3=>
(match y3 with
|true=>let v4:=Kd.eqv (.arr 32 (.int .u8)) a0.2.2.2.1 a1.2.2.2.1;k v4
|false=>k false)
|false=>k false)
|false=>k false)
theorem q15 (F20:FT20):EQ (en15 (p15 F20)) (sE 0 31 [] [en20 F20] []) Tryz.f15 [(.tmp 4,4,false)]:=fun _ _ _=>by kernel_rfl
def F15:FT15:=p15 F20
theorem ok15:OKP (en15 F15):=ST.ok0 (q15 F20) (Aa ok20 Ab) Tryz.func15
abbrev FT4:=(R:Type)→LI→LI→(List Tq13)→(Bool→Option R)→Option R
def en4 (F:FT4):Ent:=eV 4 [(.arr 5 (.int .u8)),(.arr 32 (.int .u8)),(.sl Kq13)] [.bool] F
abbrev D4_8 (Z:Type):=(List Tq13)→Int→Tq29→Tq29→Z
abbrev E4_8 (R:Type):=(Bool→Option R)→(Option R)→Option R
abbrev zjj:=(R:Type)→D4_8 (E4_8 R)
def le4_8 (L:zjj):LEnt:=lM 8 [.val 2 (.sl Kq13),.fix 7 (.ptr 2 [] Kq29),.fix 9 (.ptr 3 [] Kq29),.val 11 (.int .i64),.var 2 Kq29 false,.var 3 Kq29 false] 4 [(.ret,[.val 6 .bool]),(.exit 0,[])] L
def e4 (F8:FT8) (F9:FT9) (F10:FT10) (F11:FT11) (F12:FT12) (F13:FT13) (F14:FT14) (F15:FT15) (F16:FT16) (L8:zjj):=sE 0 80 [] [en8 F8,en9 F9,en10 F10,en11 F11,en12 F12,en13 F13,en14 F14,en15 F15,en16 F16] [le4_8 L8]
def p4_8 (F11:FT11) (F13:FT13) (F14:FT14) (F15:FT15) (F16:FT16) (R:Type):D4_8 (D4_8 (Option R)→E4_8 R):=fun x1 x2 x3 x4 kc k0 k1=>
let v5:=(x1.length:Int);let v6:=decide (x2<v5);(match v6 with
|true=>(match bnd x2 x1.length with
|true=>let v7:=x1.getD x2.toNat (0,0,0,(List.replicate 32 0),0,());F13 R x3 v7 fun y8 y9=>
(match bnd x2 x1.length with
|true=>let v10:=x1.getD x2.toNat (0,0,0,(List.replicate 32 0),0,());F14 R x4 v10 fun y11 y12=>
F11 R y8 y11 fun y13=>
(match (!y13) with
|true=>k0 false
|false=>F15 R y9 y12 fun y14=>
(match (!y14) with
|true=>k0 false
|false=>F16 R x3 y8 fun y15=>
F11 R x4 y11 fun y16=>
let v17:= !(y15==y16);(match v17 with
|true=>k0 false
|false=>let v18:=IntKind.i64.wrap (x2+1);kc x1 v18 y8 y11)))
|false=>none)
|false=>none)
|false=>k1)
theorem q4_8 (F8:FT8) (F9:FT9) (F10:FT10) (F11:FT11) (F12:FT12) (F13:FT13) (F14:FT14) (F15:FT15) (F16:FT16) (L8:zjj):LEQ (le4_8 L8) (e4 F8 F9 F10 F11 F12 F13 F14 F15 F16 L8) Tryz.f4 (p4_8 F11 F13 F14 F15 F16):=fun _ _ _ _=>by kernel_rfl
def G4_8:Nat→zjj
 | 0=>fun _ _ _ _ _ _ _=>none
 | n+1=>fun R x1 x2 x3 x4 k0 k1=>p4_8 F11 F13 F14 F15 F16 R x1 x2 x3 x4 (fun x1 x2 x3 x4=>G4_8 n R x1 x2 x3 x4 k0 k1) k0 k1
def p4 (F8:FT8) (F9:FT9) (F10:FT10) (F12:FT12) (L8:zjj):FT4:=fun R a0 a1 a2 k=>
F8 R  fun y1=>
(match (!y1) with
|true=>k false
|false=>let v2:=(a2.length:Int);let v3:=decide (v2>50);(match v3 with
|true=>k true
|false=>F12 R a0 fun y4=>
F9 R y4 a1 fun y5 y6=>
F12 R a0 fun y7=>
F10 R y7 a1 fun y8 y9=>
L8 R a2 (0:Int) y5 y8 (fun x10=>
k x10) (k true)))
theorem q4 (F8:FT8) (F9:FT9) (F10:FT10) (F11:FT11) (F12:FT12) (F13:FT13) (F14:FT14) (F15:FT15) (F16:FT16) (L8:zjj):EQ (en4 (p4 F8 F9 F10 F12 L8)) (e4 F8 F9 F10 F11 F12 F13 F14 F15 F16 L8) Tryz.f4 [(.tmp 6,4,false)]:=fun _ _ _=>by kernel_rfl
def F4:FT4:=p4 F8 F9 F10 F12 (G4_8 FUEL)
theorem lok4_8:LKP (le4_8 (G4_8 FUEL)) 0 80 8 Tryz.f4:=ST.lok (q4_8 F8 F9 F10 F11 F12 F13 F14 F15 F16 (G4_8 FUEL)) (Aa ok8 (Aa ok9 (Aa ok10 (Aa ok11 (Aa ok12 (Aa ok13 (Aa ok14 (Aa ok15 (Aa ok16 Ab))))))))) [] trivial
theorem ok4:OKP (en4 F4):=ST.ok1 (q4 F8 F9 F10 F11 F12 F13 F14 F15 F16 (G4_8 FUEL)) (Aa ok8 (Aa ok9 (Aa ok10 (Aa ok11 (Aa ok12 (Aa ok13 (Aa ok14 (Aa ok15 (Aa ok16 Ab))))))))) Tryz.func4 [8] ⟨⟨_,rfl,lok4_8⟩,trivial⟩
abbrev FT18:=(R:Type)→(List Tq17)→(List Tq17)→(Bool→Option R)→Option R
def en18 (F:FT18):Ent:=eV 18 [(.sl Kq17),(.sl Kq17)] [.bool] F
abbrev D18_4 (Z:Type):=(List Tq17)→(List Tq17)→Int→Z
abbrev E18_4 (R:Type):=(Bool→Option R)→(Option R)→Option R
abbrev LT18_4:=(R:Type)→D18_4 (E18_4 R)
def p18_4 (F15:FT15) (R:Type):D18_4 (D18_4 (Option R)→E18_4 R):=fun x1 x2 x3 kc k0 k1=>
let v4:=(x1.length:Int);let v5:=decide (x3<v4);(match v5 with
|true=>(match bnd x3 x1.length with
|true=>let v6:=x1.getD x3.toNat (0,0,[],(List.replicate 32 0),());(match bnd x3 x2.length with
|true=>let v7:=x2.getD x3.toNat (0,0,[],(List.replicate 32 0),());F15 R v6 v7 fun y8=>
(match (!y8) with
|true=>k0 false
|false=>let v9:=IntKind.i64.wrap (x3+1);kc x1 x2 v9)
|false=>none)
|false=>none)
|false=>k1)
def G18_4:Nat→LT18_4
 | 0=>fun _ _ _ _ _ _=>none
 | n+1=>fun R x1 x2 x3 k0 k1=>p18_4 F15 R x1 x2 x3 (fun x1 x2 x3=>G18_4 n R x1 x2 x3 k0 k1) k0 k1
def p18 (L4:LT18_4):FT18:=fun R a0 a1 k=>
let v1:=(a0.length:Int);let v2:=(a1.length:Int);let v3:=v1 !=v2;(match v3 with
|true=>k false
|false=>L4 R a0 a1 (0:Int) (fun x4=>
k x4) (k true))
def F18:FT18:=p18 (G18_4 FUEL)
abbrev FT5:=(R:Type)→LI→(List Tq13)→Int→(Bool→Option R)→Option R
def en5 (F:FT5):Ent:=eV 5 [(.arr 5 (.int .u8)),(.sl Kq13),(.int .u8)] [.bool] F
def p5 (F8:FT8) (F9:FT9) (F11:FT11) (F12:FT12) (F17:FT17) (F18:FT18):FT5:=fun R a0 a1 a2 k=>
F8 R  fun y1=>
(match (!y1) with
|true=>k false
|false=>let v2:=(a1.length:Int);let v3:=decide (v2>50);(match v3 with
|true=>k true
|false=>F12 R a0 fun y4=>
let v5:=List.set (List.replicate 32 (0:Int)) 0 (1:Int);F9 R y4 v5 fun y6 y7=>
let v8:=IntKind.i64.wrap a2;let v9:=(a1.length:Int);let v10:=IntKind.i64.wrap (v9+1);(match (!(v10==0)) with
|true=>let v11:=Int.tmod v8 v10;F17 R y6 a1 fun y12 y13=>
(match (decide (0≤(0:Int)∧(0:Int)≤v11∧v11≤v11∧v11≤(a1.length:Int))) with
|true=>let v14:=List.take (Int.toNat (v11 - 0)) (List.drop 0 a1);F17 R y6 v14 fun y15 y16=>
(match (decide (0≤v11∧v11≤(a1.length:Int)∧(a1.length:Int)≤(a1.length:Int)∧(a1.length:Int)≤(a1.length:Int))) with
|true=>let v17:=List.take (Int.toNat ((a1.length:Int) - v11)) (List.drop v11.toNat a1);F17 R y15 v17 fun y18 y19=>
F11 R y12 y18 fun y20=>
(match y20 with
|true=>let v21:=([]:(List Tq17));(match (decide (v21.length+y16.length≤1954687338268)) with
|true=>let v22:=v21++y16;(match (decide (v22.length+y19.length≤1954687338268)) with
|true=>let v23:=v22++y19;F18 R y13 v23 fun y24=>
(match y24 with
|true=>let v25:=(y13.length:Int);let v26:=(a1.length:Int);let v27:=v25==v26;k v27
|false=>k false)
|false=>none)
|false=>none)
|false=>k false)
|false=>none)
|false=>none)
|false=>none)))
theorem q5 (F8:FT8) (F9:FT9) (F11:FT11) (F12:FT12) (F17:FT17) (F18:FT18):EQ (en5 (p5 F8 F9 F11 F12 F17 F18)) (sE 0 75 [(10,5)] [en8 F8,en9 F9,en11 F11,en12 F12,en17 F17,en18 F18] []) Tryz.f5 [(.tmp 6,4,false)]:=fun _ _ _=>by kernel_rfl
abbrev FT19:=(R:Type)→Int→(Bool→Option R)→Option R
def en19 (F:FT19):Ent:=eV 19 [(.int .i64)] [.bool] F
def p19:FT19:=fun R a0 k=>
let v1:=decide (a0≥7);(match v1 with
|true=>let v2:=decide (a0≤11);k v2
|false=>k false)
def F19:FT19:=p19
abbrev FT6:=(R:Type)→LI→(List Tq13)→Tq13→(Bool→Option R)→Option R
def en6 (F:FT6):Ent:=eV 6 [(.arr 5 (.int .u8)),(.sl Kq13),Kq13] [.bool] F
def p6 (F8:FT8) (F9:FT9) (F11:FT11) (F12:FT12) (F13:FT13) (F17:FT17) (F19:FT19):FT6:=fun R a0 a1 a2 k=>
F8 R  fun y1=>
(match (!y1) with
|true=>k false
|false=>let v2:=(a1.length:Int);let v3:=decide (v2>50);(match v3 with
|true=>k true
|false=>F12 R a0 fun y4=>
let v5:=List.set (List.replicate 32 (0:Int)) 0 (1:Int);F9 R y4 v5 fun y6 y7=>
F17 R y6 a1 fun y8 y9=>
F13 R y8 a2 fun y10 y11=>
let v12:=y11.1 !=0;(match v12 with
|true=>F11 R y8 y10 fun y13=>
(match y13 with
|true=>let v14:=y11.2.1==0;(match v14 with
|true=>let v15:=(y11.2.2.1.length:Int);let v16:=v15==0;(match v16 with
|true=>let v17:=List.replicate 32 (0:Int);let v18:=Kd.eqv (.arr 32 (.int .u8)) y11.2.2.2.1 v17;k v18
|false=>k false)
|false=>k false)
|false=>k false)
|false=>F19 R a2.1 fun y19=>
(match (!y19) with
|true=>k true
|false=>F11 R y8 y10 fun y20=>
k y20))))
theorem q6 (F8:FT8) (F9:FT9) (F11:FT11) (F12:FT12) (F13:FT13) (F17:FT17) (F19:FT19):EQ (en6 (p6 F8 F9 F11 F12 F13 F17 F19)) (sE 0 67 [] [en8 F8,en9 F9,en11 F11,en12 F12,en13 F13,en17 F17,en19 F19] []) Tryz.f6 [(.tmp 6,4,false)]:=fun _ _ _=>by kernel_rfl
abbrev FT7:=(R:Type)→LI→LI→(List Tq13)→(Bool→Option R)→Option R
abbrev D7_8 (Z:Type):=(List Tq13)→Int→Tq21→Tq29→Z
abbrev E7_8 (R:Type):=(Bool→Option R)→(Option R)→Option R
abbrev LT7_8:=(R:Type)→D7_8 (E7_8 R)
def le7_8 (L:LT7_8):LEnt:=lM 8 [.val 2 (.sl Kq13),.fix 7 (.ptr 2 [] Kq21),.fix 8 (.ptr 3 [] Kq29),.val 10 (.int .i64),.var 2 Kq21 false,.var 3 Kq29 false] 4 [(.ret,[.val 6 .bool]),(.exit 0,[])] L
abbrev D7_15 (Z:Type):=(List Tq13)→Int→Bool→Int→Tq21→Tq29→Tq29→Z
abbrev E7_15 (R:Type):=(Bool→Option R)→((List Tq13)→Int→Bool→Tq21→Tq29→Tq29→Option R)→Option R
abbrev LT7_15:=(R:Type)→D7_15 (E7_15 R)
def le7_15 (L:LT7_15):LEnt:=lM 15 [.val 2 (.sl Kq13),.fix 7 (.ptr 2 [] Kq21),.fix 8 (.ptr 3 [] Kq29),.val 10 (.int .i64),.fix 11 (.ptr 4 [] Kq29),.val 13 .bool,.val 14 (.int .i64),.var 2 Kq21 false,.var 3 Kq29 false,.var 4 Kq29 false] 5 [(.ret,[.val 6 .bool]),(.exit 2,[.val 2 (.sl Kq13),.fix 7 (.ptr 2 [] Kq21),.fix 8 (.ptr 3 [] Kq29),.val 10 (.int .i64),.fix 11 (.ptr 4 [] Kq29),.val 13 .bool,.var 2 Kq21 false,.var 3 Kq29 false,.var 4 Kq29 false])] L
def e7 (F8:FT8) (F9:FT9) (F12:FT12) (F13:FT13) (F20:FT20) (F21:FT21) (F22:FT22) (L8:LT7_8) (L15:LT7_15):=sE 0 161 [] [en8 F8,en9 F9,en12 F12,en13 F13,en20 F20,en21 F21,en22 F22] [le7_8 L8,le7_15 L15]
def p7 (F8:FT8) (F9:FT9) (F12:FT12) (L8:LT7_8):FT7:=fun R a0 a1 a2 k=>
F8 R  fun y1=>
(match (!y1) with
|true=>k false
|false=>let v2:=(a2.length:Int);let v3:=decide (v2>50);(match v3 with
|true=>k true
|false=>F12 R a0 fun y4=>
F9 R y4 a1 fun y5 y6=>
L8 R a2 (0:Int) y4 y5 (fun x7=>
k x7) (k true)))
end Go.PG
namespace Go.PG
end Go.PG
namespace Go.PG
def U32 (x:Int):Prop:=0≤x∧x<4294967296
def U8 (x:Int):Prop:=0≤x∧x<256
theorem Up {x:Int} (h:U32 x):(BitVec.ofInt 32 x).toNat=x.toNat:=by
 rw [BitVec.toNat_ofInt];unfold U32 at h;have:x % ((2^32:Nat):Int)=x:=by omega
 rw [this]
theorem Po (b:BitVec 32):IntKind.u32.wrap ((b.toNat:Nat):Int)=(b.toNat:Int):=by
 have:=b.isLt;exact Cs (by omega) (by omega)
theorem zgv (a b:Int):iand .u32 a b=((BitVec.ofInt 32 a&&& BitVec.ofInt 32 b).toNat:Int):=Po _
theorem U1 (a b:Int):ior .u32 a b=((BitVec.ofInt 32 a||| BitVec.ofInt 32 b).toNat:Int):=Po _
theorem U0 (a b:Int):ixor .u32 a b=((BitVec.ofInt 32 a^^^BitVec.ofInt 32 b).toNat:Int):=Po _
theorem Kn (a:Int):U32 (IntKind.u32.wrap a):=by rw [Da]; unfold U32; omega
theorem H8 (b:BitVec 32):BitVec.ofInt 32 ((b.toNat:Nat):Int)=b:=by
 rw [BitVec.ofInt_natCast,BitVec.ofNat_toNat,BitVec.setWidth_eq]
theorem zo0 {a:Int} (b c:Int) (ha:U32 a):ixor .u32 (iand .u32 a b) (iand .u32 (ixor .u32 4294967295 a) c)=ior .u32 (iand .u32 a b) (iand .u32 (IntKind.u32.wrap (4294967295 - a)) c):=by
 have h1:IntKind.u32.wrap (4294967295 - a)=ixor .u32 4294967295 a:=by
  rw [U0,Cs (by unfold U32 at ha; omega) (by unfold U32 at ha; omega)];have e:BitVec.ofInt 32 4294967295=BitVec.allOnes 32:=by decide
  rw [e,BitVec.allOnes_xor,BitVec.toNat_not,Up ha];unfold U32 at ha;omega
 rw [h1];simp only [zgv,U1,U0,H8]
 congr 2
 have e:BitVec.ofInt 32 4294967295=BitVec.allOnes 32:=by decide
 rw [e]
 ext i hi
 simp only [BitVec.getElem_xor,BitVec.getElem_and,BitVec.getElem_or,BitVec.getElem_allOnes];cases (BitVec.ofInt 32 a)[i]<;>simp
theorem zai (a b c:Int):ixor .u32 (ixor .u32 (iand .u32 a b) (iand .u32 a c)) (iand .u32 b c)=ior .u32 (ior .u32 (iand .u32 a b) (iand .u32 a c)) (iand .u32 b c):=by
 simp only [zgv,U1,U0,H8]
 congr 2
 ext i hi
 simp;cases (BitVec.ofInt 32 a)[i]<;>cases (BitVec.ofInt 32 b)[i]<;>cases (BitVec.ofInt 32 c)[i]<;>rfl
def rotS (x:Int) (r:Nat):Int:=x/2^r+(x % 2^r)*2^(32 - r)
theorem Ww {x:Int} {r:Nat} (hx:U32 x) (hr:r<32):rotS x (r+1)=rotS x r/2+(rotS x r % 2)*2147483648:=by
 unfold rotS U32 at*;have e1:(2:Int)^(32 - r)=2*2^(31 - r):=by
  rw [show 32 - r=(31 - r)+1 by omega,Int.pow_succ]; omega
 have e2:(2:Int)^(32 - (r+1))=2^(31 - r):=by rw [show 32 - (r+1)=31 - r by omega]
 have e3:(2:Int)^(r+1)=2^r*2:=Int.pow_succ _ _;have e4:(2:Int)^r*2^(31 - r)=2147483648:=by
  rw [←Int.pow_add,show r+(31 - r)=31 by omega]; decide
 rw [e1,e2,e3];have hp:(0:Int)<2^r:=Int.pow_pos (by decide);generalize (2:Int)^r=p at*;generalize (2:Int)^(31 - r)=s at*;have d1:x/(p*2)=x/p/2:=(Int.ediv_ediv_of_nonneg (by omega)).symm;have d2:x % (p*2)=x % p+p*(x/p % 2):=by
  have a1:=Int.emod_add_mul_ediv x p;have a2:=Int.emod_add_mul_ediv x (p*2);have a3:=Int.emod_add_mul_ediv (x/p) 2;rw [d1] at a2;generalize x/p=q at*;generalize x % p=m at*;generalize q/2=h at*;generalize q % 2=t at*;have:p*(t+2*h)=p*q:=by rw [a3]
  rw [Int.mul_add,←Int.mul_assoc] at this;omega
 rw [d1,d2,Int.add_mul];have e5:p*(x/p % 2)*s=(x/p % 2)*2147483648:=by
  rw [Int.mul_comm p,Int.mul_assoc,e4]
 rw [e5];have e6:x % p*(2*s)=2*(x % p*s):=by rw [Int.mul_left_comm]
 rw [e6];generalize x % p*s=u;omega
theorem Wv (x:Int):rotS x 0=x:=by simp [rotS]
theorem zkb {x:Int} (hx:U32 x):∀{r:Nat},r≤32→U32 (rotS x r)
 | 0,_=>by rw [Wv]; exact hx
 | r+1,h=>by
  have ih:=zkb hx (r:=r) (by omega);rw [Ww hx (by omega)];unfold U32 at*;omega
theorem two_pow_pos (r:Nat):(0:Int)<2^r:=Int.pow_pos (by decide)
theorem rot_or {x:Int} (hx:U32 x) {r:Nat} (h0:0<r) (hr:r<32):ior .u32 (ishr .u32 x r) (ishl .u32 x ((32:Int) - r))=rotS x r:=by
 unfold U32 at hx;obtain ⟨n,rfl⟩:∃n:Nat,x=n:=⟨x.toNat,by omega⟩
 have hn:n<2^32:=by omega
 have e1:ishr .u32 (n:Int) r=((n/2^r:Nat):Int):=by
  unfold ishr;rw [show IntKind.u32.bits=32 from rfl,show ((r:Int).toNat)=r by simp,Nat.min_eq_left (by omega),Int.fdiv_eq_ediv_of_nonneg _ (by have:=two_pow_pos r; omega)];simp
 have e2:ishl .u32 (n:Int) ((32:Int) - r)=((n*2^(32 - r) % 2^32:Nat):Int):=by
  unfold ishl;rw [show IntKind.u32.bits=32 from rfl,show ((32:Int) - r).toNat=32 - r by omega,Nat.min_eq_left (by omega),Da];simp
 rw [e1,e2,U1,BitVec.ofInt_natCast,BitVec.ofInt_natCast,BitVec.toNat_or,BitVec.toNat_ofNat,BitVec.toNat_ofNat];have hd:n/2^r<2^(32 - r):=by
  rw [Nat.div_lt_iff_lt_mul (Nat.two_pow_pos r),←Nat.pow_add,show 32 - r+r=32 by omega]; exact hn
 have h3:n*2^(32 - r) % 2^32=(n % 2^r)*2^(32 - r):=by
  have:2^32=2^r*2^(32 - r):=by rw [←Nat.pow_add,show r+(32 - r)=32 by omega]
  rw [this,Nat.mul_mod_mul_right]
 have h4:n/2^r<2^32:=Nat.lt_of_le_of_lt (Nat.div_le_self _ _) hn;rw [h3,Nat.mod_eq_of_lt h4,Nat.mod_eq_of_lt (by
  have:n % 2^r<2^r:=Nat.mod_lt _ (Nat.two_pow_pos r);have h5:2^32=2^r*2^(32 - r):=by rw [←Nat.pow_add,show r+(32 - r)=32 by omega]
  rw [h5]; exact Nat.mul_lt_mul_of_pos_right this (Nat.two_pow_pos _)),Nat.or_comm]
 have h6:=Nat.shiftLeft_add_eq_or_of_lt hd (n % 2^r);rw [Nat.shiftLeft_eq] at h6;rw [←h6];unfold rotS;simp;omega
end Go.PG
namespace Go.PG
theorem F293_eq (R:Type) {x:Int} (hx:U32 x) {r:Nat} (h0:0<r) (hr:r<32) (k:Int→Option R):F293 R x (r:Int) k=k (rotS x r):=by
 simp only [F293,p293];rw [Ad (n:=(r:Int)) (by omega) (by omega),Int.tmod_eq_of_lt (by omega) (by omega),Ad (by omega) (by omega)];rw [show decide (0≤(r:Int))=true by simp,show decide (0≤(32:Int) - r)=true by simp; omega];simp only;rw [rot_or hx h0 hr]
theorem zpw (R:Type) {x:Int} (hx:U32 x) {r:Nat} (hr:r≤32) (k:Int→Option R):∀(m i:Nat),i≤r→r - i<m→Q8 m R (rotS x i) (r:Int) (i:Int) k=k (rotS x r)
 | 0,i,_,h=>by omega
 | m+1,i,h1,h2=>by
  simp only [Q8,zk6]
  by_cases hi:i<r
  ·have hd:decide ((i:Int)<(r:Int))=true:=by simpa using hi
   have hu:=zkb hx (r:=i) (by omega);have hs:=Ww hx (r:=i) (by omega);simp only [hd];have ih:=zpw R hx hr k m (i+1) (by omega) (by omega);rw [hs] at ih;rw [←ih];unfold U32 at hu;rw [Int.tdiv_eq_ediv_of_nonneg hu.1,Int.tmod_eq_emod_of_nonneg hu.1];rw [Cs (n:=rotS x i/2) (by omega) (by omega),Cs (n:=rotS x i % 2*2147483648) (by omega) (by omega),Cs (by omega) (by omega),wrap_i64 (by omega) (by omega)];rfl
  ·have hd:decide ((i:Int)<(r:Int))=false:=by simpa using hi
   have:i=r:=by omega
   subst this;simp only [hd]
theorem F248_eq (R:Type) {x:Int} (hx:U32 x) {r:Nat} (hr:r<32) (k:Int→Option R):F248 R x (r:Int) k=k (rotS x r):=by
 simp only [F248,p248];rw [Int.tmod_eq_of_lt (by omega) (by omega)];have hd:decide ((r:Int)<0)=false:=by simp
 simp only [hd];have:=zpw R hx (r:=r) (by omega) k FUEL 0 (by omega) (by rw [Ai]; omega);rw [Wv] at this;exact this
def shrS (x:Int) (r:Nat):Int:=x/2^r
theorem zf5 {x:Int} (hx:U32 x) {r:Nat} (hr:r≤32):ishr .u32 x r=shrS x r:=by
 unfold ishr shrS;rw [show IntKind.u32.bits=32 from rfl,show ((r:Int).toNat)=r by simp,Nat.min_eq_left hr,Int.fdiv_eq_ediv_of_nonneg _ (by have:=two_pow_pos r; omega)]
theorem F294_eq (R:Type) {x:Int} (hx:U32 x) {r:Nat} (hr:r≤32) (k:Int→Option R):F294 R x (r:Int) k=k (shrS x r):=by
 simp only [F294,p294];have e:(if (0:Int)>(r:Int) then (0:Int) else (r:Int))=r:=by split<;>omega
 rw [e,Ad (by omega) (by omega),zf5 hx hr];have hd:decide ((0:Int)≤(r:Int))=true:=by simp
 simp only [hd]
theorem shrS_lt {x:Int} (hx:U32 x) (r:Nat):U32 (shrS x r):=by
 unfold shrS U32 at*;have hp:=two_pow_pos r;exact ⟨Int.ediv_nonneg hx.1 (by omega),Int.lt_of_le_of_lt (Int.ediv_le_self _ hx.1) hx.2⟩
theorem zj1 (x:Int) (r:Nat):shrS x (r+1)=shrS x r/2:=by
 unfold shrS;rw [Int.pow_succ,Int.ediv_ediv_of_nonneg (by have:=two_pow_pos r; omega)]
theorem zpx (R:Type) {x:Int} (hx:U32 x) {r:Nat} (hr:r≤32) (k:Int→Option R):∀(m i:Nat),i≤r→r - i<m→Q9 m R (shrS x i) (r:Int) (i:Int) k=k (shrS x r)
 | 0,i,_,h=>by omega
 | m+1,i,h1,h2=>by
  simp only [Q9,zk7]
  by_cases hi:i<r
  ·have hd:decide ((i:Int)<(r:Int))=true:=by simpa using hi
   have hu:=shrS_lt hx i;simp only [hd];have ih:=zpx R hx hr k m (i+1) (by omega) (by omega);rw [zj1] at ih;rw [←ih];unfold U32 at hu;rw [Int.tdiv_eq_ediv_of_nonneg hu.1,Cs (by omega) (by omega),wrap_i64 (by omega) (by omega)];rfl
  ·have hd:decide ((i:Int)<(r:Int))=false:=by simpa using hi
   have:i=r:=by omega
   subst this;simp only [hd]
theorem F247_eq (R:Type) {x:Int} (hx:U32 x) {r:Nat} (hr:r<32) (k:Int→Option R):F247 R x (r:Int) k=k (shrS x r):=by
 simp only [F247,p247];have hd:decide ((r:Int)>31)=false:=by simp; omega
 simp only [hd];have:=zpx R hx (r:=r) (by omega) k FUEL 0 (by omega) (by rw [Ai]; omega);rw [show shrS x 0=x by simp [shrS]] at this;exact this
theorem D9 (R:Type) {x:Int} (hx:U32 x) {n:Int} (r:Nat) (e:n=(r:Int)) (h0:0<r) (hr:r<32) (k:Int→Option R):F293 R x n k=k (rotS x r):=by rw [e]; exact F293_eq R hx h0 hr k
theorem Hm (R:Type) {x:Int} (hx:U32 x) {n:Int} (r:Nat) (e:n=(r:Int)) (hr:r<32) (k:Int→Option R):F248 R x n k=k (rotS x r):=by rw [e]; exact F248_eq R hx hr k
theorem zht (R:Type) {x:Int} (hx:U32 x) {n:Int} (r:Nat) (e:n=(r:Int)) (hr:r≤32) (k:Int→Option R):F294 R x n k=k (shrS x r):=by rw [e]; exact F294_eq R hx hr k
theorem V8 (R:Type) {x:Int} (hx:U32 x) {n:Int} (r:Nat) (e:n=(r:Int)) (hr:r<32) (k:Int→Option R):F247 R x n k=k (shrS x r):=by rw [e]; exact F247_eq R hx hr k
def sig3 (x:Int) (a b c:Nat):Int:=ixor .u32 (ixor .u32 (rotS x a) (rotS x b)) (rotS x c)
def sig2 (x:Int) (a b c:Nat):Int:=ixor .u32 (ixor .u32 (rotS x a) (rotS x b)) (shrS x c)
theorem F286_eq (R:Type) {x:Int} (hx:U32 x) (k:Int→Option R):F286 R x k=k (sig2 x 17 19 10):=by
 simp only [F286,p286,F291,p291];rw [D9 R hx (n:=17) 17 rfl (by omega) (by omega),D9 R hx (n:=19) 19 rfl (by omega) (by omega),zht R hx (n:=10) 10 rfl (by omega)];simp only [sig2]
theorem F287_eq (R:Type) {x:Int} (hx:U32 x) (k:Int→Option R):F287 R x k=k (sig2 x 7 18 3):=by
 simp only [F287,p287,F291,p291];rw [D9 R hx (n:=7) 7 rfl (by omega) (by omega),D9 R hx (n:=18) 18 rfl (by omega) (by omega),zht R hx (n:=3) 3 rfl (by omega)];simp only [sig2]
theorem F217_eq (R:Type) {x:Int} (hx:U32 x) (k:Int→Option R):F217 R x k=k (sig2 x 17 19 10):=by
 have h1:=Hm R hx (n:=17) 17 rfl (by omega);have h2:=Hm R hx (n:=19) 19 rfl (by omega);have h3:=V8 R hx (n:=10) 10 rfl (by omega);show p217 F247 F248 R x k=_;generalize F248=f at*;generalize F247=g at*;simp only [p217,h1,h2,h3,sig2]
theorem F218_eq (R:Type) {x:Int} (hx:U32 x) (k:Int→Option R):F218 R x k=k (sig2 x 7 18 3):=by
 have h1:=Hm R hx (n:=7) 7 rfl (by omega);have h2:=Hm R hx (n:=18) 18 rfl (by omega);have h3:=V8 R hx (n:=3) 3 rfl (by omega);show p218 F247 F248 R x k=_;generalize F248=f at*;generalize F247=g at*;simp only [p218,h1,h2,h3,sig2]
def chS (a b c:Int):Int:=ior .u32 (iand .u32 a b) (iand .u32 (IntKind.u32.wrap (4294967295 - a)) c)
def majS (a b c:Int):Int:=ior .u32 (ior .u32 (iand .u32 a b) (iand .u32 a c)) (iand .u32 b c)
theorem F288_eq (R:Type) {a:Int} (ha:U32 a) (b c:Int) (k:Int→Option R):F288 R a b c k=k (IntKind.u32.wrap (sig3 a 6 11 25+chS a b c)):=by
 simp only [F288,p288,F292,p292];rw [D9 R ha (n:=6) 6 rfl (by omega) (by omega),D9 R ha (n:=11) 11 rfl (by omega) (by omega),D9 R ha (n:=25) 25 rfl (by omega) (by omega)];simp only [sig3,chS,zo0 b c ha]
theorem F289_eq (R:Type) {a:Int} (ha:U32 a) (b c:Int) (k:Int→Option R):F289 R a b c k=k (IntKind.u32.wrap (sig3 a 2 13 22+majS a b c)):=by
 simp only [F289,p289,F292,p292];rw [D9 R ha (n:=2) 2 rfl (by omega) (by omega),D9 R ha (n:=13) 13 rfl (by omega) (by omega),D9 R ha (n:=22) 22 rfl (by omega) (by omega)];simp only [sig3,majS,zai]
theorem zsy (R:Type) {x:Int} (hx:U32 x) {a b c:Int} (p q r:Nat) (ea:a=(p:Int)) (eb:b=(q:Int)) (ec:c=(r:Int)) (hp:p<32) (hq:q<32) (hr:r<32) (k:Int→Option R):F219 R x a b c k=k (sig3 x p q r):=by
 simp only [F219,p219];rw [Hm R hx p ea hp,Hm R hx q eb hq,Hm R hx r ec hr];simp only [sig3]
def Kt (s:List Int) (w c:Int):List Int:=
 let t:=IntKind.u32.wrap (s.getD 7 0+sig3 (s.getD 4 0) 6 11 25+chS (s.getD 4 0) (s.getD 5 0) (s.getD 6 0)+c+w)
 [IntKind.u32.wrap (t+(sig3 (s.getD 0 0) 2 13 22+majS (s.getD 0 0) (s.getD 1 0) (s.getD 2 0))),s.getD 0 0,s.getD 1 0,s.getD 2 0,IntKind.u32.wrap (s.getD 3 0+t),s.getD 4 0,s.getD 5 0,s.getD 6 0]
theorem F176_eq (R:Type) {s:List Int} (h0:U32 (s.getD 0 0)) (h4:U32 (s.getD 4 0)) (w c:Int) (k:List Int→Option R):F176 R s w c k=k (Kt s w c):=by
 have e1:=zsy R h4 (a:=6) (b:=11) (c:=25) 6 11 25 rfl rfl rfl (by omega) (by omega) (by omega);have e2:=zsy R h0 (a:=2) (b:=13) (c:=22) 2 13 22 rfl rfl rfl (by omega) (by omega) (by omega);show p176 F219 F220 F221 R s w c k=_;generalize F219=f at*;simp only [p176,e1,e2,F220,p220,F221,p221]
 congr 1
 simp only [Kt,chS,majS,List.replicate,List.set];simp only [Da]
 congr 1
 ·omega
 ·congr 4
  omega
theorem F284_eq (R:Type) {a0 a1 a2 a3 a4 a5 a6 a7:Int} (h0:U32 a0) (h4:U32 a4) (w c:Int) (k:List Int→Option R):F284 R [a0,a1,a2,a3,a4,a5,a6,a7] w c k=k (Kt [a0,a1,a2,a3,a4,a5,a6,a7] w c):=by
 simp only [F284,p284,List.getD_cons_zero,List.getD_cons_succ];rw [F288_eq R h4,F289_eq R h0]
 congr 1
 simp [Kt,lay,List.replicate];simp only [Da];refine ⟨?_,?_⟩<;>omega
end Go.PG
end
