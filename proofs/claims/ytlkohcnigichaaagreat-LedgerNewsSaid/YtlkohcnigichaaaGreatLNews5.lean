/- A part of the proof over this seat (own work; the framework that reads a Go function as a pure one, or a use of it). No condition of its own. -/
import Derived.Test.YtlkohcnigichaaaGreatLNews4
import Derived.Test.YtlkohcnigichaaaGreatProg
import Derived.KernelRfl
set_option linter.unusedVariables false
set_option linter.unusedSimpArgs false
set_option linter.unusedSectionVars false
noncomputable section
set_option maxRecDepth 100000
namespace Go.PG
open Go.Proofs
abbrev Zq:=(R:Type)→Tq40→Int→(Int→Tq40→Int→Option R)→Option R
def en263 (F:Zq):Ent:=eV 263 [Kq40,(.int .i64)] [(.int .u64),Kq40,(.int .i64)] F
abbrev znj (Z:Type):=Int→Int→Int→Tq40→Tq43→Z
abbrev zv8 (R:Type):=(Int→Tq40→Tq43→Option R)→Option R
abbrev Lc:=(R:Type)→znj (zv8 R)
def Xd (L:Lc):LEnt:=lM 7 [.val 4 (.int .u64),.fix 5 (.ptr 1 [] Kq40),.fix 7 (.ptr 2 [] Kq43),.val 31 (.int .i64),.val 32 (.int .i64),.var 1 Kq40 false,.var 2 Kq43 false] 3 [(.exit 1,[.val 4 (.int .u64),.fix 5 (.ptr 1 [] Kq40),.fix 7 (.ptr 2 [] Kq43),.var 1 Kq40 false,.var 2 Kq43 false])] L
def e263 (F266:Md) (F277:Zk) (F278:zeh) (L7:Lc):=sE 0 45 [] [zd0 F266,en277 F277,en278 F278] [Xd L7]
def zfw (F278:zeh) (R:Type):znj (znj (Option R)→zv8 R):=fun x1 x2 x3 x4 x5 kc k0=>
let v6:=decide (x3<x2);(match v6 with
|true=>let v7:=ishl .u64 x1 (1:Int);F278 R x5 fun y8 p9=>
let v10:=ior .u64 v7 y8;let v11:=IntKind.i64.wrap (x3+1);kc v10 x2 v11 x4 p9
|false=>k0 x1 x4 x5)
theorem q263_7 (F266:Md) (F277:Zk) (F278:zeh) (L7:Lc):LEQ (Xd L7) (e263 F266 F277 F278 L7) Tryz.f263 (zfw F278):=fun _ _ _ _=>by kernel_rfl
def Mu:Nat→Lc
 | 0=>fun _ _ _ _ _ _ _=>none
 | n+1=>fun R x1 x2 x3 x4 x5 k0=>zfw F278 R x1 x2 x3 x4 x5 (fun x1 x2 x3 x4 x5=>Mu n R x1 x2 x3 x4 x5 k0) k0
def p263 (F266:Md) (F277:Zk) (L7:Lc):Zq:=fun R a0 a1 k=>
F266 R a0 fun y1=>
(match (!y1) with
|true=>k (0:Int) a0 (1:Int)
|false=>let v2:=decide (a1<0);(match v2 with
|true=>k (0:Int) a0 (1:Int)
|false=>let v3:=decide (a1>64);(match v3 with
|true=>k (0:Int) a0 (1:Int)
|false=>let v4:=IntKind.u64.wrap a1;F277 R a0 fun y5=>
let v6:=decide (v4>y5);(match v6 with
|true=>k (0:Int) a0 (8:Int)
|false=>L7 R (0:Int) a1 (0:Int) ((0:Int),([]:LI),(0:Int),(List.replicate 32 (0:Int)),(0:Int),(0:Int),()) (a0,(List.replicate 32 (0:Int)),(0:Int),false,()) (fun x7 x8 x9=>
k x7 x9.1 (0:Int))))))
theorem q263 (F266:Md) (F277:Zk) (F278:zeh) (L7:Lc):EQ (en263 (p263 F266 F277 L7)) (e263 F266 F277 F278 L7) Tryz.f263 [(.tmp 4,28,false),(.cell 5 132,132,false),(.tmp 6,35,false)]:=fun _ _ _=>by kernel_rfl
def F263:Zq:=p263 F266 F277 (Mu FUEL)
theorem zqj:LKP (Xd (Mu FUEL)) 0 45 7 Tryz.f263:=ST.lok (q263_7 F266 F277 F278 (Mu FUEL)) (Aa zgq (Aa ok277 (Aa ok278 Ab))) [] trivial
theorem ok263:OKP (en263 F263):=ST.ok1 (q263 F266 F277 F278 (Mu FUEL)) (Aa zgq (Aa ok277 (Aa ok278 Ab))) Tryz.func263 [7] ⟨⟨_,rfl,zqj⟩,trivial⟩
abbrev Z0:=(R:Type)→Tq40→Int→Int→(Int→Tq40→Int→Option R)→Option R
def zsi (F:Z0):Ent:=eV 235 [Kq40,(.int .u64),(.int .i64)] [(.int .u64),Kq40,(.int .i64)] F
abbrev znt (Z:Type):=Int→Int→Int→Tq40→Tq40→Z
abbrev zwi (R:Type):=(Int→Int→Tq40→Option R)→(Tq40→Tq40→Option R)→Option R
abbrev Lk:=(R:Type)→znt (zwi R)
def Xn (L:Lk):LEnt:=lM 4 [.val 1 (.int .u64),.fix 3 (.ptr 0 [] Kq40),.fix 7 (.ptr 1 [] Kq40),.val 18 (.int .i64),.val 19 (.int .i64),.var 0 Kq40 false,.var 1 Kq40 false] 2 [(.ret,[.val 6 (.int .u64),.fix 7 (.ptr 1 [] Kq40),.val 8 (.int .i64),.var 1 Kq40 false]),(.exit 0,[.fix 3 (.ptr 0 [] Kq40),.fix 7 (.ptr 1 [] Kq40),.var 0 Kq40 false,.var 1 Kq40 false])] L
def e235 (F262:Zr) (F263:Zq) (F264:Zp) (L4:Lk):=sE 0 43 [] [en262 F262,en263 F263,en264 F264] [Xn L4]
def zf4 (F263:Zq) (F264:Zp) (R:Type):znt (znt (Option R)→zwi R):=fun x1 x2 x3 x4 x5 kc k0 k1=>
let v6:=decide (x3<x2);(match v6 with
|true=>F264 R x1 fun y7=>
F263 R x4 y7 fun y8 y9 y10=>
let v11:=y10 !=0;(match v11 with
|true=>k0 (0:Int) y10 x4
|false=>let v12:=decide (y8<x1);(match v12 with
|true=>k0 y8 (0:Int) y9
|false=>let v13:=IntKind.i64.wrap (x3+1);kc x1 x2 v13 y9 x5))
|false=>k1 x4 x5)
theorem q235_4 (F262:Zr) (F263:Zq) (F264:Zp) (L4:Lk):LEQ (Xn L4) (e235 F262 F263 F264 L4) Tryz.f235 (zf4 F263 F264):=fun _ _ _ _=>by kernel_rfl
def O4:Nat→Lk
 | 0=>fun _ _ _ _ _ _ _ _=>none
 | n+1=>fun R x1 x2 x3 x4 x5 k0 k1=>zf4 F263 F264 R x1 x2 x3 x4 x5 (fun x1 x2 x3 x4 x5=>O4 n R x1 x2 x3 x4 x5 k0 k1) k0 k1
def p235 (F262:Zr) (L4:Lk):Z0:=fun R a0 a1 a2 k=>
F262 R a0 a1 a2 fun y1=>
(match (!y1) with
|true=>k (0:Int) a0 (1:Int)
|false=>L4 R a1 a2 (0:Int) a0 ((0:Int),([]:LI),(0:Int),(List.replicate 32 (0:Int)),(0:Int),(0:Int),()) (fun x2 x3 x4=>
k x2 x4 x3) (fun x5 x6=>
k (0:Int) x5 (9:Int)))
theorem q235 (F262:Zr) (F263:Zq) (F264:Zp) (L4:Lk):EQ (zsi (p235 F262 L4)) (e235 F262 F263 F264 L4) Tryz.f235 [(.tmp 6,28,false),(.cell 7 132,132,false),(.tmp 8,35,false)]:=fun _ _ _=>by kernel_rfl
def F235:Z0:=p235 F262 (O4 FUEL)
theorem zqt:LKP (Xn (O4 FUEL)) 0 43 4 Tryz.f235:=ST.lok (q235_4 F262 F263 F264 (O4 FUEL)) (Aa ok262 (Aa ok263 (Aa ok264 Ab))) [] trivial
theorem ok235:OKP (zsi F235):=ST.ok1 (q235 F262 F263 F264 (O4 FUEL)) (Aa ok262 (Aa ok263 (Aa ok264 Ab))) Tryz.func235 [4] ⟨⟨_,rfl,zqt⟩,trivial⟩
abbrev zk5:=(R:Type)→(LI×Unit)→Int→(Int→Int→Option R)→Option R
def en257 (F:zk5):Ent:=eV 257 [(.pair (.sl (.int .u64)) .unit),(.int .u64)] [(.int .i64),(.int .i64)] F
abbrev znl (Z:Type):=Int→Int→Int→(LI×Unit)→Z
abbrev zwa (R:Type):=(Int→Int→Int→(LI×Unit)→Option R)→Option R
abbrev I2:=(R:Type)→znl (zwa R)
def Xf (L:I2):LEnt:=lM 4 [.val 1 (.int .u64),.fix 2 (.ptr 0 [] (.pair (.sl (.int .u64)) .unit)),.val 6 (.int .i64),.val 7 (.int .i64),.var 0 (.pair (.sl (.int .u64)) .unit) false] 1 [(.exit 0,[.val 1 (.int .u64),.fix 2 (.ptr 0 [] (.pair (.sl (.int .u64)) .unit)),.val 6 (.int .i64),.val 7 (.int .i64),.var 0 (.pair (.sl (.int .u64)) .unit) false])] L
abbrev znk (Z:Type):=Int→Int→Int→(LI×Unit)→Z
abbrev zv9 (R:Type):=(Int→Option R)→Option R
abbrev I1:=(R:Type)→znk (zv9 R)
def Xe (L:I1):LEnt:=lM 6 [.val 1 (.int .u64),.fix 2 (.ptr 0 [] (.pair (.sl (.int .u64)) .unit)),.val 6 (.int .i64),.val 7 (.int .i64),.var 0 (.pair (.sl (.int .u64)) .unit) false] 1 [(.exit 2,[.val 6 (.int .i64)])] L
def e257 (F256:Kc) (F275:Mc) (L4:I2) (L6:I1):=sE 0 51 [] [zib F256,zia F275] [Xf L4,Xe L6]
def zfx (F275:Mc) (R:Type):znl (znl (Option R)→zwa R):=fun x1 x2 x3 x4 kc k0=>
let v5:=ishl .i64 x3 (1:Int);F275 R x4 fun y6=>
let v7:=decide (v5≤y6);(match v7 with
|true=>let v8:=ishl .i64 x3 (1:Int);kc x1 x2 v8 x4
|false=>k0 x1 x2 x3 x4)
theorem q257_4 (F256:Kc) (F275:Mc) (L4:I2) (L6:I1):LEQ (Xf L4) (e257 F256 F275 L4 L6) Tryz.f257 (zfx F275):=fun _ _ _ _=>by kernel_rfl
def Mv:Nat→I2
 | 0=>fun _ _ _ _ _ _=>none
 | n+1=>fun R x1 x2 x3 x4 k0=>zfx F275 R x1 x2 x3 x4 (fun x1 x2 x3 x4=>Mv n R x1 x2 x3 x4 k0) k0
def zbm (F275:Mc) (R:Type):znk (znk (Option R)→zv9 R):=fun x1 x2 x3 x4 kc k0=>
let v5:=decide (x3>0);(match v5 with
|true=>let v6:=IntKind.i64.wrap (x2+x3);F275 R x4 fun y7=>
let v8:=decide (v6≤y7);(match v8 with
|true=>let v9:=IntKind.i64.wrap (v6 - 1);(match bnd v9 x4.1.length with
|true=>let v10:=x4.1.getD v9.toNat 0;let v11:=decide (v10≤x1);(match v11 with
|true=>let v12:=IntKind.i64.wrap (v6 - 1);(match bnd v12 x4.1.length with
|true=>let v13:=x4.1.getD v12.toNat 0;let v14:=IntKind.u64.wrap (x1 - v13);let v15:=ishr .i64 x3 (1:Int);kc v14 v6 v15 x4
|false=>none)
|false=>let v16:=ishr .i64 x3 (1:Int);kc x1 x2 v16 x4)
|false=>none)
|false=>let v17:=ishr .i64 x3 (1:Int);kc x1 x2 v17 x4)
|false=>k0 x2)
theorem q257_6 (F256:Kc) (F275:Mc) (L4:I2) (L6:I1):LEQ (Xe L6) (e257 F256 F275 L4 L6) Tryz.f257 (zbm F275):=fun _ _ _ _=>by kernel_rfl
def Hp:Nat→I1
 | 0=>fun _ _ _ _ _ _=>none
 | n+1=>fun R x1 x2 x3 x4 k0=>zbm F275 R x1 x2 x3 x4 (fun x1 x2 x3 x4=>Hp n R x1 x2 x3 x4 k0) k0
def p257 (F256:Kc) (L4:I2) (L6:I1):zk5:=fun R a0 a1 k=>
F256 R a0 fun y1=>
let v2:=decide (a1≥y1);(match v2 with
|true=>k (0:Int) (3:Int)
|false=>L4 R a1 (0:Int) (1:Int) a0 (fun x3 x4 x5 x6=>
L6 R x3 x4 x5 x6 (fun x7=>
k x7 (0:Int))))
theorem q257 (F256:Kc) (F275:Mc) (L4:I2) (L6:I1):EQ (en257 (p257 F256 L4 L6)) (e257 F256 F275 L4 L6) Tryz.f257 [(.tmp 4,3,false),(.tmp 5,35,false)]:=fun _ _ _=>by kernel_rfl
def F257:zk5:=p257 F256 (Mv FUEL) (Hp FUEL)
theorem zql:LKP (Xf (Mv FUEL)) 0 51 4 Tryz.f257:=ST.lok (q257_4 F256 F275 (Mv FUEL) (Hp FUEL)) (Aa zdg (Aa zgp Ab)) [] trivial
theorem zqk:LKP (Xe (Hp FUEL)) 0 51 6 Tryz.f257:=ST.lok (q257_6 F256 F275 (Mv FUEL) (Hp FUEL)) (Aa zdg (Aa zgp Ab)) [] trivial
theorem ok257:OKP (en257 F257):=ST.ok1 (q257 F256 F275 (Mv FUEL) (Hp FUEL)) (Aa zdg (Aa zgp Ab)) Tryz.func257 [4,6] ⟨⟨_,rfl,zql⟩,⟨⟨_,rfl,zqk⟩,trivial⟩⟩
abbrev Sf:=(R:Type)→(LI×Unit)→Tq40→Int→(Int→Tq40→Int→Option R)→Option R
def zsj (F:Sf):Ent:=eV 230 [(.pair (.sl (.int .u64)) .unit),Kq40,(.int .i64)] [(.int .i64),Kq40,(.int .i64)] F
def p230 (F235:Z0) (F256:Kc) (F257:zk5):Sf:=fun R a0 a1 a2 k=>
F256 R a0 fun y1=>
let v2:=y1==0;(match v2 with
|true=>k (0:Int) a1 (10:Int)
|false=>F235 R a1 y1 a2 fun y3 y4 y5=>
let v6:=y5 !=0;(match v6 with
|true=>k (0:Int) y4 y5
|false=>F257 R a0 y3 fun y7 y8=>
k y7 y4 y8))
theorem q230 (F235:Z0) (F256:Kc) (F257:zk5):EQ (zsj (p230 F235 F256 F257)) (sE 0 40 [] [zsi F235,zib F256,en257 F257] []) Tryz.f230 [(.tmp 6,3,false),(.cell 7 132,132,false),(.tmp 8,35,false)]:=fun _ _ _=>by kernel_rfl
def F230:Sf:=p230 F235 F256 F257
theorem zy7:OKP (zsj F230):=ST.ok0 (q230 F235 F256 F257) (Aa ok235 (Aa zdg (Aa ok257 Ab))) Tryz.func230
abbrev Z2:=(R:Type)→Tq10→(LI×Unit)→Int→(Int→Int→Option R)→Option R
def en193 (F:Z2):Ent:=eV 193 [Kq10,(.pair (.sl (.int .u64)) .unit),(.int .i64)] [(.int .i64),(.int .i64)] F
def p193 (F161:Si) (F230:Sf):Z2:=fun R a0 a1 a2 k=>
F161 R a0 (1:Int) a2 fun y1=>
F230 R a1 y1 a0.2.1 fun y2 y3 y4=>
k y2 y4
theorem q193 (F161:Si) (F230:Sf):EQ (en193 (p193 F161 F230)) (sE 0 24 [] [zig F161,zsj F230] []) Tryz.f193 [(.tmp 6,3,false),(.tmp 7,35,false)]:=fun _ _ _=>by kernel_rfl
def F193:Z2:=p193 F161 F230
theorem ok193:OKP (en193 F193):=ST.ok0 (q193 F161 F230) (Aa zzh (Aa zy7 Ab)) Tryz.func193
abbrev zlx:=(R:Type)→LI→Int→Int→LI→(LI→Int→Option R)→Option R
def en156 (F:zlx):Ent:=eV 156 [(.arr 32 (.int .u8)),(.int .i64),(.int .i64),(.sl (.int .u64))] [(.sl (.int .i64)),(.int .i64)] F
abbrev zod (Z:Type):=Int→Int→Tq10→(LI×Unit)→LI→Z
abbrev zw2 (R:Type):=(LI→Option R)→Option R
abbrev Ls:=(R:Type)→zod (zw2 R)
def X0 (L:Ls):LEnt:=lM 9 [.fix 10 (.ptr 1 [] Kq10),.fix 11 (.ptr 2 [] (.pair (.sl (.int .u64)) .unit)),.fix 13 (.own 3 0),.val 38 (.int .i64),.val 39 (.int .i64),.var 1 Kq10 false,.var 2 (.pair (.sl (.int .u64)) .unit) false,.row 3 (.int .i64) false] 4 [(.exit 0,[.fix 13 (.own 3 0),.row 3 (.int .i64) false])] L
def e156 (F159:Pi) (F192:Sg) (F193:Z2) (L9:Ls):=sE 0 59 [] [zih F159,zsm F192,en193 F193] [X0 L9]
def zge (F193:Z2) (R:Type):zod (zod (Option R)→zw2 R):=fun x1 x2 x3 x4 x5 kc k0=>
let v6:=decide (x2<x1);(match v6 with
|true=>F193 R x3 x4 x2 fun y7 y8=>
(match bnd x2 x5.length with
|true=>let v9:=x5.set x2.toNat y7;let v10:=y8 !=0;(match v10 with
|true=>(match bnd x2 v9.length with
|true=>let v11:=v9.set x2.toNat (-1:Int);let v12:=IntKind.i64.wrap (x2+1);kc x1 v12 x3 x4 v11
|false=>none)
|false=>let v13:=IntKind.i64.wrap (x2+1);kc x1 v13 x3 x4 v9)
|false=>none)
|false=>k0 x5)
theorem q156_9 (F159:Pi) (F192:Sg) (F193:Z2) (L9:Ls):LEQ (X0 L9) (e156 F159 F192 F193 L9) Tryz.f156 (zge F193):=fun _ _ _ _=>by kernel_rfl
def O9:Nat→Ls
 | 0=>fun _ _ _ _ _ _ _=>none
 | n+1=>fun R x1 x2 x3 x4 x5 k0=>zge F193 R x1 x2 x3 x4 x5 (fun x1 x2 x3 x4 x5=>O9 n R x1 x2 x3 x4 x5 k0) k0
def p156 (F159:Pi) (F192:Sg) (L9:Ls):zlx:=fun R a0 a1 a2 a3 k=>
let v1:=decide (a1<1);(match v1 with
|true=>k ([]:LI) (1:Int)
|false=>let v2:=IntKind.i64.wrap (a1 - 1);F159 R (a0,a2,()) v2 fun y3=>
(match (!y3) with
|true=>k ([]:LI) (1:Int)
|false=>F192 R a3 fun y4 y5=>
let v6:=y5 !=0;(match v6 with
|true=>k ([]:LI) y5
|false=>(match (decide (0≤a1∧a1≤a1∧a1≤17592186044416)) with
|true=>let v7:=List.replicate a1.toNat (0:Int);let v8:=(v7.length:Int);L9 R v8 (0:Int) (a0,a2,()) y4 v7 (fun x9=>
k x9 (0:Int))
|false=>none))))
theorem q156 (F159:Pi) (F192:Sg) (F193:Z2) (L9:Ls):EQ (en156 (p156 F159 F192 L9)) (e156 F159 F192 F193 L9) Tryz.f156 [(.tmp 8,32,false),(.tmp 9,35,false)]:=fun _ _ _=>by kernel_rfl
def F156:zlx:=p156 F159 F192 (O9 FUEL)
theorem zq6:LKP (X0 (O9 FUEL)) 0 59 9 Tryz.f156:=ST.lok (q156_9 F159 F192 F193 (O9 FUEL)) (Aa zp4 (Aa zzb (Aa ok193 Ab))) [] trivial
theorem ok156:OKP (en156 F156):=ST.ok1 (q156 F159 F192 F193 (O9 FUEL)) (Aa zp4 (Aa zzb (Aa ok193 Ab))) Tryz.func156 [9] ⟨⟨_,rfl,zq6⟩,trivial⟩
abbrev zl9:=(R:Type)→Tq31→(Int→Tq31→Option R)→Option R
def en107 (F:zl9):Ent:=eM 107 [(true,Kq31)] [(false,(.int .i64))] F
def p107 (F110:Kh) (F153:zlz) (F154:zly) (F155:zth) (F156:zlx):zl9:=fun R a0 k=>
F153 R a0.1.2.2.2.1 fun y1 y2 y3 y4=>
let v5:=y4 !=0;(match v5 with
|true=>k y4 ((a0.1.1,a0.1.2.1,a0.1.2.2.1,y1,a0.1.2.2.2.2.1,y3,a0.1.2.2.2.2.2.2),a0.2)
|false=>F154 R a0.1.2.2.1 fun y6=>
F155 R y3 fun y7=>
F110 R y6 fun y8=>
F156 R y1.2.1 a0.1.1.1 a0.1.1.2.2.2.1 y8 fun y9 y10=>
k y10 ((a0.1.1,a0.1.2.1,y6,y1,y9,y3,a0.1.2.2.2.2.2.2),(a0.2.1.1,a0.2.1.2.1,y7,y1.2.1,a0.2.1.2.2.2.2),a0.2.2))
theorem q107 (F110:Kh) (F153:zlz) (F154:zly) (F155:zth) (F156:zlx):EQ (en107 (p107 F110 F153 F154 F155 F156)) (sE 1 88 [] [Yi F110,en153 F153,en154 F154,en155 F155,en156 F156] []) Tryz.f107 [(.tmp 2,35,false)]:=fun _ _ _=>by kernel_rfl
def F107:zl9:=p107 F110 F153 F154 F155 F156
theorem ok107:OKP (en107 F107):=ST.ok0 (q107 F110 F153 F154 F155 F156) (Aa zgu (Aa ok153 (Aa ok154 (Aa ok155 (Aa ok156 Ab))))) Tryz.func107
abbrev FT59:=(R:Type)→Tq31→Tq13→(Int→Tq31→Option R)→Option R
def en59 (F:FT59):Ent:=eM 59 [(true,Kq31),(false,Kq13)] [(false,(.int .i64))] F
def p59 (F106:zma) (F107:zl9):FT59:=fun R a0 a1 k=>
F106 R a0.1.1 a0.1.2.1 fun y1 y2=>
let v3:=IntKind.u64.wrap y1;(match y2 with
|true=>F107 R ((a0.1.1,y1,a0.1.2.2),(a0.2.1.1,v3,a0.2.1.2.2),a0.2.2) fun y4 p5=>
k y4 p5
|false=>k (0:Int) ((a0.1.1,y1,a0.1.2.2),(a0.2.1.1,v3,a0.2.1.2.2),a0.2.2))
theorem q59 (F106:zma) (F107:zl9):EQ (en59 (p59 F106 F107)) (sE 1 35 [] [en106 F106,en107 F107] []) Tryz.f59 [(.tmp 4,35,false)]:=fun _ _ _=>by kernel_rfl
def F59:FT59:=p59 F106 F107
theorem ok59:OKP (en59 F59):=ST.ok0 (q59 F106 F107) (Aa ok106 (Aa ok107 Ab)) Tryz.func59
abbrev Sl:=(R:Type)→Tq31→Int→(Int→Tq31→Option R)→Option R
def zim (F:Sl):Ent:=eM 108 [(true,Kq31),(false,(.int .i64))] [(false,(.int .i64))] F
def p108:Sl:=fun R a0 a1 k=>
let v1:=decide (a1<0);(match v1 with
|true=>k (3:Int) a0
|false=>let v2:=decide (a1≥a0.1.1.1);(match v2 with
|true=>k (3:Int) a0
|false=>k (0:Int) a0))
theorem q108:EQ (zim p108) (sE 1 17 [] [] []) Tryz.f108 [(.tmp 4,35,false)]:=fun _ _ _=>by kernel_rfl
def F108:Sl:=p108
theorem zzm:OKP (zim F108):=ST.ok0 q108 Ab Tryz.func108
abbrev Sk:=(R:Type)→LI→(Int→Option R)→Option R
def zsw (F:Sk):Ent:=eV 109 [(.sl (.int .u64))] [(.int .i64)] F
abbrev zo0 (Z:Type):=Int→LI→Int→Int→Z
abbrev zxp (R:Type):=(Int→Option R)→Option R
abbrev L0:=(R:Type)→zo0 (zxp R)
def Yb (L:L0):LEnt:=lM 2 [.val 2 (.int .i64),.val 5 (.sl (.int .u64)),.val 6 (.int .i64),.val 7 (.int .i64)] 0 [(.exit 0,[.val 2 (.int .i64)])] L
def e109 (L2:L0):=sE 0 17 [] [] [Yb L2]
def zgo (R:Type):zo0 (zo0 (Option R)→zxp R):=fun x1 x2 x3 x4 kc k0=>
let v5:=decide (x4<x3);(match v5 with
|true=>(match bnd x4 x2.length with
|true=>let v6:=x2.getD x4.toNat 0;let v7:=decide (v6>0);(match v7 with
|true=>let v8:=IntKind.i64.wrap (x1+1);let v9:=IntKind.i64.wrap (x4+1);kc v8 x2 x3 v9
|false=>let v10:=IntKind.i64.wrap (x4+1);kc x1 x2 x3 v10)
|false=>none)
|false=>k0 x1)
theorem q109_2 (L2:L0):LEQ (Yb L2) (e109 L2) Tryz.f109 zgo:=fun _ _ _ _=>by kernel_rfl
def Pg:Nat→L0
 | 0=>fun _ _ _ _ _ _=>none
 | n+1=>fun R x1 x2 x3 x4 k0=>zgo R x1 x2 x3 x4 (fun x1 x2 x3 x4=>Pg n R x1 x2 x3 x4 k0) k0
def p109 (L2:L0):Sk:=fun R a0 k=>
let v1:=(a0.length:Int);L2 R (0:Int) a0 v1 (0:Int) (fun x2=>
k x2)
theorem q109 (L2:L0):EQ (zsw (p109 L2)) (e109 L2) Tryz.f109 [(.tmp 2,3,false)]:=fun _ _ _=>by kernel_rfl
def F109:Sk:=p109 (Pg FUEL)
theorem zri:LKP (Yb (Pg FUEL)) 0 17 2 Tryz.f109:=ST.lok (q109_2 (Pg FUEL)) Ab [] trivial
theorem zzl:OKP (zsw F109):=ST.ok1 (q109 (Pg FUEL)) Ab Tryz.func109 [2] ⟨⟨_,rfl,zri⟩,trivial⟩
abbrev FT60:=(R:Type)→Tq31→Tq13→(Int→Tq31→Option R)→Option R
def en60 (F:FT60):Ent:=eM 60 [(true,Kq31),(false,Kq13)] [(false,(.int .i64))] F
def p60 (F108:Sl) (F109:Sk) (F110:Kh):FT60:=fun R a0 a1 k=>
F108 R a0 a1.2.2.2.2.1 fun y1 p2=>
let v3:=y1 !=0;(match v3 with
|true=>k y1 p2
|false=>F110 R p2.1.2.2.1 fun y4=>
F109 R y4 fun y5=>
let v6:=y5==0;(match v6 with
|true=>k (10:Int) p2
|false=>(match bnd a1.2.2.2.2.1 p2.1.2.2.2.2.1.length with
|true=>let v7:=p2.1.2.2.2.2.1.getD a1.2.2.2.2.1.toNat 0;let v8:=v7==(-1:Int);(match v8 with
|true=>k (9:Int) p2
|false=>(match bnd a1.2.2.2.2.1 p2.1.2.2.2.2.1.length with
|true=>let v9:=p2.1.2.2.2.2.1.getD a1.2.2.2.2.1.toNat 0;let v10:=([v9]:LI);k (0:Int) (p2.1,(p2.2.1.1,p2.2.1.2.1,v10,p2.2.1.2.2.2),p2.2.2)
|false=>none))
|false=>none)))
theorem q60 (F108:Sl) (F109:Sk) (F110:Kh):EQ (en60 (p60 F108 F109 F110)) (sE 1 45 [] [zim F108,zsw F109,Yi F110] []) Tryz.f60 [(.tmp 4,35,false)]:=fun _ _ _=>by kernel_rfl
def F60:FT60:=p60 F108 F109 F110
theorem ok60:OKP (en60 F60):=ST.ok0 (q60 F108 F109 F110) (Aa zzm (Aa zzl (Aa zgu Ab))) Tryz.func60
abbrev Vo:=(R:Type)→Int→Int→(Int→Bool→Option R)→Option R
def zse (F:Vo):Ent:=eV 258 [(.int .u64),(.int .u64)] [(.int .u64),.bool] F
def p258 (F96:FT96) (F179:Z5):Vo:=fun R a0 a1 k=>
F96 R a0 a1 fun y1 y2=>
F179 R y2 y1 fun y3 y4=>
k y3 y4
theorem q258 (F96:FT96) (F179:Z5):EQ (zse (p258 F96 F179)) (sE 0 19 [] [en96 F96,zsn F179] []) Tryz.f258 [(.tmp 4,28,false),(.tmp 5,4,false)]:=fun _ _ _=>by kernel_rfl
def F258:Vo:=p258 F96 F179
theorem ok258:OKP (zse F258):=ST.ok0 (q258 F96 F179) (Aa ok96 (Aa ok179 Ab)) Tryz.func258
abbrev Vq:=(R:Type)→LI→(Int→Int→Option R)→Option R
def en231 (F:Vq):Ent:=eV 231 [(.sl (.int .u64))] [(.int .u64),(.int .i64)] F
def p231 (F139:Je) (F258:Vo):Vq:=fun R a0 k=>
let v1:=(a0.length:Int);let v2:=IntKind.u64.wrap v1;let v3:=v2==0;(match v3 with
|true=>k (0:Int) (10:Int)
|false=>F139 R a0 fun y4 y5=>
(match (!y5) with
|true=>k (0:Int) (11:Int)
|false=>let v6:=y4==0;(match v6 with
|true=>k (0:Int) (10:Int)
|false=>F258 R v2 y4 fun y7 y8=>
(match (!y8) with
|true=>k (0:Int) (11:Int)
|false=>k y4 (0:Int)))))
theorem q231 (F139:Je) (F258:Vo):EQ (en231 (p231 F139 F258)) (sE 0 32 [] [zd3 F139,zse F258] []) Tryz.f231 [(.tmp 2,28,false),(.tmp 3,35,false)]:=fun _ _ _=>by kernel_rfl
def F231:Vq:=p231 F139 F258
theorem ok231:OKP (en231 F231):=ST.ok0 (q231 F139 F258) (Aa zgt (Aa ok258 Ab)) Tryz.func231
abbrev zlm:=(R:Type)→LI→(Tq44→Int→Option R)→Option R
def en194 (F:zlm):Ent:=eV 194 [(.sl (.int .u64))] [Kq44,(.int .i64)] F
abbrev zn1 (Z:Type):=LI→Int→LI→Int→Int→Tq44→LI→(List Tq7)→LI→LI→(Int×Unit)→Z
abbrev zwq (R:Type):=(Tq44→LI→(List Tq7)→LI→LI→(Int×Unit)→Option R)→Option R
abbrev I3:=(R:Type)→zn1 (zwq R)
def Xt (L:I3):LEnt:=lM 7 [.val 0 (.sl (.int .u64)),.fix 2 (.ptr 0 [] Kq44),.val 4 (.int .u64),.fix 6 (.mptr 6 0 Kq46),.val 28 (.sl (.int .u64)),.val 29 (.int .i64),.val 30 (.int .i64),.var 0 Kq44 false,.row 1 (.int .u64) false,.row 2 Kq7 false,.row 4 (.int .i64) false,.row 5 (.int .i64) false,.mix 6 [((.int .u64),none),((.sl Kq7),some 2),((.sl (.int .u64)),some 1),((.sl (.int .i64)),some 4),((.sl (.int .i64)),some 5)]] 7 [(.exit 0,[.fix 2 (.ptr 0 [] Kq44),.fix 6 (.mptr 6 0 Kq46),.var 0 Kq44 false,.row 1 (.int .u64) false,.row 2 Kq7 false,.row 4 (.int .i64) false,.row 5 (.int .i64) false,.mix 6 [((.int .u64),none),((.sl Kq7),some 2),((.sl (.int .u64)),some 1),((.sl (.int .i64)),some 4),((.sl (.int .i64)),some 5)]])] L
abbrev zar (Z:Type):=Tq44→LI→(List Tq7)→LI→LI→(Int×Unit)→Z
abbrev zm6 (R:Type):=(Tq44→LI→(List Tq7)→LI→LI→(Int×Unit)→Option R)→Option R
abbrev Gi:=(R:Type)→zar (zm6 R)
def Rm (L:Gi):LEnt:=lM 13 [.fix 2 (.ptr 0 [] Kq44),.fix 6 (.mptr 6 0 Kq46),.var 0 Kq44 false,.row 1 (.int .u64) false,.row 2 Kq7 false,.row 4 (.int .i64) false,.row 5 (.int .i64) false,.mix 6 [((.int .u64),none),((.sl Kq7),some 2),((.sl (.int .u64)),some 1),((.sl (.int .i64)),some 4),((.sl (.int .i64)),some 5)]] 7 [(.exit 2,[.fix 2 (.ptr 0 [] Kq44),.fix 6 (.mptr 6 0 Kq46),.var 0 Kq44 false,.row 1 (.int .u64) false,.row 2 Kq7 false,.row 4 (.int .i64) false,.row 5 (.int .i64) false,.mix 6 [((.int .u64),none),((.sl Kq7),some 2),((.sl (.int .u64)),some 1),((.sl (.int .i64)),some 4),((.sl (.int .i64)),some 5)]])] L
def zir (R:Type):Env R:=⟨TT,EQT,0,37,Bo [],Bc [] R,fun _ _ _=>none,[],Bd [],[]⟩
theorem zb8 (R:Type):Az Tryz.prog (zir R):=⟨tabOK,eqOK,Aq Ab,Bs,Ak⟩
def zt4 (R:Type):Env R:=⟨TT,EQT,0,26,Bo [(2,9)],Bc [] R,fun _ _ _=>none,[],Bd [],[]⟩
theorem zr0 (R:Type):Az Tryz.prog (zt4 R):=⟨tabOK,eqOK,Aq Ab,Bs,Ak⟩
def zt7 (R:Type):Env R:=⟨TT,EQT,0,53,Bo [(0,3),(0,7),(3,2)],Bc [] R,fun _ _ _=>none,[],Bd [(232,xinl (zir R) (Ag Tryz.f232) [] 2),(259,xinl (zt4 R) (Ag Tryz.f259) [.tmp 2] 1)],[]⟩
theorem zr3 (R:Type):Az Tryz.prog (zt7 R):=⟨tabOK,eqOK,Aq Ab,Bs,(A3 (A9 (zb8 R) mixed Tryz.func232 (body:=Ag Tryz.f232) (by kernel_rfl) (by kernel_rfl) (by kernel_rfl) (res:=[]) (by kernel_rfl) (n:=2) (Nat.le_of_ble_eq_true rfl) (by kernel_rfl)) (A3 (A9 (zr0 R) mixed Tryz.func259 (body:=Ag Tryz.f259) (by kernel_rfl) (by kernel_rfl) (by kernel_rfl) (res:=[.tmp 2]) (by kernel_rfl) (n:=1) (Nat.le_of_ble_eq_true rfl) (by kernel_rfl)) Ak))⟩
def e194 (F231:Vq) (L7:I3) (L13:Gi) (R:Type):Env R:=⟨TT,EQT,0,84,Bo [(4,3),(4,4),(11,2),(14,1)],Bc [en231 F231] R,Bf [Xt L7,Rm L13] R,[],Bd [(232,xinl (zir R) (Ag Tryz.f232) [] 2),(233,xinl (zt7 R) (Ag Tryz.f233) [] 1)],[]⟩
def zf8 (R:Type):zn1 (zn1 (Option R)→zwq R):=fun x1 x2 x3 x4 x5 x6 x7 x8 x9 x10 x11 kc k0=>
let v12:=decide (x5<x4);(match v12 with
|true=>(match bnd x5 x3.length with
|true=>let v13:=x3.getD x5.toNat 0;let v14:=(x1.length:Int);let v15:=IntKind.u64.wrap v14;let v16:=IntKind.u64.wrap (v13*v15);(match bnd x5 x7.length with
|true=>let v17:=x7.set x5.toNat v16;let v18:=([(x2,x5,())]:(List Tq7));(match (decide (x8.length+v18.length≤8796093022208)) with
|true=>let v19:=x8++v18;(match bnd x5 v17.length with
|true=>let v20:=v17.getD x5.toNat 0;let v21:=decide (v20<x11.1);(match v21 with
|true=>let v22:=([x5]:LI);(match (decide (x9.length+v22.length≤17592186044416)) with
|true=>let v23:=x9++v22;let v24:=IntKind.i64.wrap (x5+1);kc x1 x2 x3 x4 v24 x6 v17 v19 v23 x10 (x11.1,())
|false=>none)
|false=>let v25:=([x5]:LI);(match (decide (x10.length+v25.length≤17592186044416)) with
|true=>let v26:=x10++v25;let v27:=IntKind.i64.wrap (x5+1);kc x1 x2 x3 x4 v27 x6 v17 v19 x9 v26 (x11.1,())
|false=>none))
|false=>none)
|false=>none)
|false=>none)
|false=>none)
|false=>k0 x6 x7 x8 x9 x10 (x11.1,()))
theorem q194_7 (F231:Vq) (L7:I3) (L13:Gi):LEQ (Xt L7) (e194 F231 L7 L13) Tryz.f194 zf8:=fun _ _ _ _=>by kernel_rfl
def J6:Nat→I3
 | 0=>fun _ _ _ _ _ _ _ _ _ _ _ _ _=>none
 | n+1=>fun R x1 x2 x3 x4 x5 x6 x7 x8 x9 x10 x11 k0=>zf8 R x1 x2 x3 x4 x5 x6 x7 x8 x9 x10 x11 (fun x1 x2 x3 x4 x5 x6 x7 x8 x9 x10 x11=>J6 n R x1 x2 x3 x4 x5 x6 x7 x8 x9 x10 x11 k0) k0
def Wq (R:Type):zar (zar (Option R)→zm6 R):=fun x1 x2 x3 x4 x5 x6 kc k0=>
let v7:=(x4.length:Int);let v8:=decide (v7>0);(match v8 with
|true=>let v9:=(x5.length:Int);let v10:=decide (v9>0);(match v10 with
|true=>let v11:=(x4.length:Int);let v12:=IntKind.i64.wrap (v11 - 1);(match bnd v12 x4.length with
|true=>let v13:=x4.getD v12.toNat 0;let v14:=(x4.length:Int);let v15:=IntKind.i64.wrap (v14 - 1);(match (decide (0≤v15∧v15≤(x4.length:Int))) with
|true=>let v16:=List.take v15.toNat x4;let v17:=(x5.length:Int);let v18:=IntKind.i64.wrap (v17 - 1);(match bnd v18 x5.length with
|true=>let v19:=x5.getD v18.toNat 0;let v20:=(x5.length:Int);let v21:=IntKind.i64.wrap (v20 - 1);(match (decide (0≤v21∧v21≤(x5.length:Int))) with
|true=>let v22:=List.take v21.toNat x5;(match bnd v13 x2.length with
|true=>let v23:=x2.getD v13.toNat 0;(match bnd v13 x3.length with
|true=>let v24:=x3.set v13.toNat (v23,v19,());(match bnd v19 x2.length with
|true=>let v25:=x2.getD v19.toNat 0;(match bnd v13 x2.length with
|true=>let v26:=x2.getD v13.toNat 0;let v27:=IntKind.u64.wrap (x6.1 - v26);let v28:=IntKind.u64.wrap (v25 - v27);(match bnd v19 x2.length with
|true=>let v29:=x2.set v19.toNat v28;(match bnd v19 v29.length with
|true=>let v30:=v29.getD v19.toNat 0;let v31:=decide (v30<x6.1);(match v31 with
|true=>let v32:=([v19]:LI);(match (decide (v16.length+v32.length≤17592186044416)) with
|true=>let v33:=v16++v32;kc x1 v29 v24 v33 v22 (x6.1,())
|false=>none)
|false=>let v34:=([v19]:LI);(match (decide (v22.length+v34.length≤17592186044416)) with
|true=>let v35:=v22++v34;kc x1 v29 v24 v16 v35 (x6.1,())
|false=>none))
|false=>none)
|false=>none)
|false=>none)
|false=>none)
|false=>none)
|false=>none)
|false=>none)
|false=>none)
|false=>none)
|false=>none)
|false=>k0 x1 x2 x3 x4 x5 (x6.1,()))
|false=>k0 x1 x2 x3 x4 x5 (x6.1,()))
theorem zx9 (F231:Vq) (L7:I3) (L13:Gi):LEQ (Rm L13) (e194 F231 L7 L13) Tryz.f194 Wq:=fun _ _ _ _=>by kernel_rfl
def Fr:Nat→Gi
 | 0=>fun _ _ _ _ _ _ _ _=>none
 | n+1=>fun R x1 x2 x3 x4 x5 x6 k0=>Wq R x1 x2 x3 x4 x5 x6 (fun x1 x2 x3 x4 x5 x6=>Fr n R x1 x2 x3 x4 x5 x6 k0) k0
def p194 (F231:Vq) (L7:I3) (L13:Gi):zlm:=fun R a0 k=>
F231 R a0 fun y1 y2=>
let v3:=y2 !=0;(match v3 with
|true=>k ((0:Int),([]:(List Tq7)),()) y2
|false=>let v4:=(a0.length:Int);(match (decide (0≤v4∧v4≤v4∧v4≤17592186044416)) with
|true=>let v5:=List.replicate v4.toNat (0:Int);let v6:=(a0.length:Int);L7 R a0 y1 a0 v6 (0:Int) ((0:Int),([]:(List Tq7)),()) v5 ([]:(List Tq7)) ([]:LI) ([]:LI) (y1,()) (fun x7 x8 x9 x10 x11 x12=>
L13 R x7 x8 x9 x10 x11 (x12.1,()) (fun x13 x14 x15 x16 x17 x18=>
k (x18.1,x15,()) (0:Int)))
|false=>none))
theorem q194 (F231:Vq) (L7:I3) (L13:Gi):EQ (en194 (p194 F231 L7 L13)) (e194 F231 L7 L13) Tryz.f194 [(.cell 2 215,215,false),(.tmp 3,35,false)]:=fun _ _ _=>by kernel_rfl
def F194:zlm:=p194 F231 (J6 FUEL) (Fr FUEL)
theorem zh7 (R:Type):Az Tryz.prog (e194 F231 (J6 FUEL) (Fr FUEL) R):=⟨tabOK,eqOK,Aq (Aa ok231 Ab),Bs,(A3 (A9 (zb8 R) mixed Tryz.func232 (body:=Ag Tryz.f232) (by kernel_rfl) (by kernel_rfl) (by kernel_rfl) (res:=[]) (by kernel_rfl) (n:=2) (Nat.le_of_ble_eq_true rfl) (by kernel_rfl)) (A3 (A9 (zr3 R) mixed Tryz.func233 (body:=Ag Tryz.f233) (by kernel_rfl) (by kernel_rfl) (by kernel_rfl) (res:=[]) (by kernel_rfl) (n:=1) (Nat.le_of_ble_eq_true rfl) (by kernel_rfl)) Ak))⟩
theorem zqz:LKP (Xt (J6 FUEL)) 0 84 7 Tryz.f194:=ST.lok3 (q194_7 F231 (J6 FUEL) (Fr FUEL)) zh7 (fun _=>rfl) (fun _=>rfl) (fun _=>rfl) [] trivial
theorem zg4:LKP (Rm (Fr FUEL)) 0 84 13 Tryz.f194:=ST.lok3 (zx9 F231 (J6 FUEL) (Fr FUEL)) zh7 (fun _=>rfl) (fun _=>rfl) (fun _=>rfl) [] trivial
theorem ok194:OKP (en194 F194):=ST.ok3 (q194 F231 (J6 FUEL) (Fr FUEL)) zh7 Tryz.func194 (fun _=>rfl) (fun _=>rfl) (fun _=>rfl) [7,13] ⟨⟨_,rfl,zqz⟩,⟨⟨_,rfl,zg4⟩,trivial⟩⟩
abbrev Zs:=(R:Type)→Tq7→Tq44→(Bool→Tq44→Option R)→Option R
def en261 (F:Zs):Ent:=eM 261 [(false,Kq7),(true,Kq44)] [(false,.bool)] F
def p261:Zs:=fun R a0 a1 k=>
let v1:=decide (a0.1>a1.1);(match v1 with
|true=>k true a1
|false=>let v2:=decide (a0.2.1<0);(match v2 with
|true=>k true a1
|false=>let v3:=(a1.2.1.length:Int);let v4:=decide (a0.2.1≥v3);k v4 a1))
theorem q261:EQ (en261 p261) (sE 1 22 [] [] []) Tryz.f261 [(.tmp 3,4,false)]:=fun _ _ _=>by kernel_rfl
def F261:Zs:=p261
theorem ok261:OKP (en261 F261):=ST.ok0 q261 Ab Tryz.func261
abbrev Gk:Type 1:=(R:Type)→(List Tq7)→Tq44→(Int→Tq44→Option R)→Option R
def Cq (F:Gk):EntC:=⟨276,261,Kq44,[(false,(.sl Kq7))],[(false,(.int .i64))],fun R x c k=>F R x.1 c (fun y1 c1=>k (y1,()) () c1)⟩
def Ti:List (ResultVar×TypeId×Bool):=[(.tmp 4,3,false)]
abbrev Em:Type 1:=(R:Type)→(List Tq7)→Int→Int→Tq44→(Int→Tq44→Option R)→(Tq44→Option R)→Option R
def Bg (L:Em):LEnt:=⟨2,[.val 0 (.sl Kq7),.fix 1 (.clo 261 [(0,Kq44)]),.val 7 (.int .i64),.val 8 (.int .i64),.var 0 Kq44 false],1,[(.ret,[.val 4 (.int .i64),.var 0 Kq44 false]),(.exit 0,[.var 0 Kq44 false])],fun R x ke=>L R x.1 x.2.1 x.2.2.1 x.2.2.2.1 (fun y1 y2=>ke.1 (y1,y2,())) (fun y1=>ke.2.1 (y1,()))⟩
def Ob (F261:Zs) (L2:Em) (R:Type):Env R:=⟨TT,EQT,1,19,Bo [],Bc [en261 F261] R,Bf [Bg L2] R,[],Bd [],[]⟩
def Jp (F261:Zs):(R:Type)→(List Tq7)→Int→Int→Tq44→((List Tq7)→Int→Int→Tq44→Option R)→(Int→Tq44→Option R)→(Tq44→Option R)→Option R:=fun R x1 x2 x3 x4 kc k0 k1=>
let v5:=decide (x3<x2);(match v5 with
|true=>(match bnd x3 x1.length with
|true=>let v6:=x1.getD x3.toNat (0,0,());F261 R v6 x4 fun y7 p8=>
(match y7 with
|true=>k0 x3 p8
|false=>let v9:=IntKind.i64.wrap (x3+1);kc x1 x2 v9 p8)
|false=>none)
|false=>k1 x4)
theorem zfd (F261:Zs) (L2:Em) (R:Type) (x:HT (Bg L2).H) (kc:HT (Bg L2).H→Option R) (ke:KT R (Bg L2).exs):
 exec (Ob F261 L2 R) (Cf 2 (Ag Tryz.f276)) (stOf (Bg L2).H x 1) (Mg (Bg L2).H (Bg L2).exs kc ke)=
  Jp F261 R x.1 x.2.1 x.2.2.1 x.2.2.2.1 (fun x1 x2 x3 x4=>kc (x1,x2,x3,x4,())) (fun y1 y2=>ke.1 (y1,y2,())) (fun y1=>ke.2.1 (y1,())):=by kernel_rfl
def A5:Nat→Em
 | 0=>fun _ _ _ _ _ _ _=>none
 | n+1=>fun R x1 x2 x3 x4 k0 k1=>Jp F261 R x1 x2 x3 x4 (fun x1 x2 x3 x4=>A5 n R x1 x2 x3 x4 k0 k1) k0 k1
def Wm (L2:Em):Gk:=fun R a0 c0 k=>
let v1:=(a0.length:Int);L2 R a0 v1 (0:Int) c0 (fun x2 x3=>
k x2 x3) (fun x4=>
k (-1:Int) x4)
theorem zx5 (F261:Zs) (L2:Em) (F:Gk) (R:Type) (x:AT (Cq F).ins) (c:(Cq F).ck.T) (k:RT (Cq F).outs→PT (Cq F).ins→(Cq F).ck.T→Option R):
 xfun (Ob F261 L2 R) (Ag Tryz.f276) Ti (avs (Cq F).ins x++[AV.clo 261 (Cq F).ck c]) (zrx (Cq F).outs (Cq F).ins (Cq F).ck k)=Wm L2 R x.1 c (fun y1 c1=>k (y1,()) () c1):=by kernel_rfl
def C9:Gk:=Wm (A5 FUEL)
theorem Ua (R:Type):Az Tryz.prog (Ob F261 (A5 FUEL) R):=⟨tabOK,eqOK,Aq (Aa ok261 Ab),Bs,Ak⟩
def Hl:(R:Type)→HT (Bg (A5 FUEL)).H→(HT (Bg (A5 FUEL)).H→Option R)→KT R (Bg (A5 FUEL)).exs→Option R:=fun R x kc ke=>Jp F261 R x.1 x.2.1 x.2.2.1 x.2.2.2.1 (fun x1 x2 x3 x4=>kc (x1,x2,x3,x4,())) (fun y1 y2=>ke.1 (y1,y2,())) (fun y1=>ke.2.1 (y1,()))
theorem zdq:∀(n:Nat) (R:Type) (x:HT (Bg (A5 FUEL)).H) (ke:KT R (Bg (A5 FUEL)).exs),iter Hl n R x ke=A5 n R x.1 x.2.1 x.2.2.1 x.2.2.2.1 (fun y1 y2=>ke.1 (y1,y2,())) (fun y1=>ke.2.1 (y1,())):=by
 intro n
 induction n with
 | zero=>intro R x ke; rfl
 | succ n ih=>
  intro R x ke;show Hl R x (fun x'=>iter Hl n R x' ke) ke=_
  rw [show (fun x'=>iter Hl n R x' ke)=fun x=>A5 n R x.1 x.2.1 x.2.2.1 x.2.2.2.1 (fun y1 y2=>ke.1 (y1,y2,())) (fun y1=>ke.2.1 (y1,())) from funext fun x'=>ih R x' ke];rfl
theorem W2:(Bg (A5 FUEL)).OK Tryz.prog 1 19 (Cf 2 (Ag Tryz.f276)):=fun R x ke r h=>
 Ek (fun R=>Ob F261 (A5 FUEL) R) 1 19 (fun _=>rfl) (fun _=>rfl) (fun R=>Ua R) mixed (by
  intro R;rw [show Ap (Cf 2 (Ag Tryz.f276))=[] from by kernel_rfl];exact Bp) (T:=Hl) (fun R x kc ke=>zfd F261 (A5 FUEL) R x kc ke) FUEL R x ke r ((zdq FUEL R x ke).trans h)
theorem zpw:(Cq C9).OK Tryz.prog:=
 zh8 (Ef:=fun R=>Ob F261 (A5 FUEL) R) (fun R=>Ua R) mixed Tryz.func276 (body:=Ag Tryz.f276) (by kernel_rfl) (by kernel_rfl) (np:=1) (nt:=19) (fun _=>rfl) (fun _=>rfl) (by kernel_rfl) (res:=Ti) (by kernel_rfl) (fun _ _=>rfl) (fun _ _=>Nat.le_of_ble_eq_true rfl) (by
  intro R;rw [show Ap (Ag Tryz.f276)=[Cf 2 (Ag Tryz.f276)] from by kernel_rfl];exact (Af (H5 (e:=Bg (A5 FUEL)) rfl rfl W2) Bp)) (fun R x c k=>zx5 F261 (A5 FUEL) C9 R x c k)
abbrev Gl:Type 1:=(R:Type)→(List Tq7)→Tq44→(Bool→Tq44→Option R)→Option R
def Cr (F:Gl):EntC:=⟨260,261,Kq44,[(false,(.sl Kq7))],[(false,.bool)],fun R x c k=>F R x.1 c (fun y1 c1=>k (y1,()) () c1)⟩
def Tj:List (ResultVar×TypeId×Bool):=[(.tmp 4,4,false)]
def Yj (C9:Gk) (R:Type):Env R:=⟨TT,EQT,1,9,Bo [],Kz [Cq C9] [] [] R,Bf [] R,[],Bd [],[]⟩
def Wn (C9:Gk):Gl:=fun R a0 c0 k=>
C9 R a0 c0 fun y1 p2=>
let v3:=decide (y1≥0);k v3 p2
theorem zx6 (C9:Gk) (F:Gl) (R:Type) (x:AT (Cr F).ins) (c:(Cr F).ck.T) (k:RT (Cr F).outs→PT (Cr F).ins→(Cr F).ck.T→Option R):
 xfun (Yj C9 R) (Ag Tryz.f260) Tj (avs (Cr F).ins x++[AV.clo 261 (Cr F).ck c]) (zrx (Cr F).outs (Cr F).ins (Cr F).ck k)=Wn C9 R x.1 c (fun y1 c1=>k (y1,()) () c1):=by kernel_rfl
def Dm:Gl:=Wn C9
theorem zh4 (R:Type):Az Tryz.prog (Yj C9 R):=⟨tabOK,eqOK,Ky (Uq zpw zci) Ed Ab,Bs,Ak⟩
theorem zpx:(Cr Dm).OK Tryz.prog:=
 zh8 (Ef:=fun R=>Yj C9 R) (fun R=>zh4 R) mixed Tryz.func260 (body:=Ag Tryz.f260) (by kernel_rfl) (by kernel_rfl) (np:=1) (nt:=9) (fun _=>rfl) (fun _=>rfl) (by kernel_rfl) (res:=Tj) (by kernel_rfl) (fun _ _=>rfl) (fun _ _=>Nat.le_of_ble_eq_true rfl) (by
  intro R;rw [show Ap (Ag Tryz.f260)=[] from by kernel_rfl];exact Bp) (fun R x c k=>zx6 C9 Dm R x c k)
abbrev Ph:=(R:Type)→Tq44→(Bool→Option R)→Option R
def zd1 (F:Ph):Ent:=eV 234 [Kq44] [.bool] F
def e234 (F258:Vo) (Dm:Gl) (R:Type):Env R:=⟨TT,EQT,0,33,Bo [],Kz [Cr Dm] [] [zse F258] R,Bf [] R,[],Bd [],[]⟩
def p234 (F258:Vo) (Dm:Gl):Ph:=fun R a0 k=>
let v1:=(a0.2.1.length:Int);let v2:=IntKind.u64.wrap v1;F258 R v2 a0.1 fun y3 y4=>
(match (!y4) with
|true=>k false
|false=>let v5:=(a0.2.1.length:Int);let v6:=v5==0;(match v6 with
|true=>k false
|false=>let v7:=a0.1==0;(match v7 with
|true=>k false
|false=>Dm R a0.2.1 a0 fun y8 p9=>
k (!y8))))
theorem q234 (F258:Vo) (Dm:Gl):EQ (zd1 (p234 F258 Dm)) (e234 F258 Dm) Tryz.f234 [(.tmp 2,4,false)]:=fun _ _ _=>by kernel_rfl
def F234:Ph:=p234 F258 Dm
theorem env234 (R:Type):Az Tryz.prog (e234 F258 Dm R):=⟨tabOK,eqOK,Ky (Uq zpx zci) Ed (Aa ok258 Ab),Bs,Ak⟩
theorem zp0:OKP (zd1 F234):=ST.ok3 (q234 F258 Dm) env234 Tryz.func234 (fun _=>rfl) (fun _=>rfl) (fun _=>rfl) [] trivial
abbrev Zz:=(R:Type)→Tq44→(Int→Option R)→Option R
def zsh (F:Zz):Ent:=eV 236 [Kq44] [(.int .u64)] F
def p236 (F234:Ph):Zz:=fun R a0 k=>
F234 R a0 fun y1=>
(match (!y1) with
|true=>k (0:Int)
|false=>let v2:=(a0.2.1.length:Int);let v3:=IntKind.u64.wrap v2;let v4:=IntKind.u64.wrap (v3*a0.1);k v4)
theorem q236 (F234:Ph):EQ (zsh (p236 F234)) (sE 0 13 [] [zd1 F234] []) Tryz.f236 [(.tmp 2,28,false)]:=fun _ _ _=>by kernel_rfl
def F236:Zz:=p236 F234
theorem ok236:OKP (zsh F236):=ST.ok0 (q236 F234) (Aa zp0 Ab) Tryz.func236
abbrev zk1:=(R:Type)→Tq44→Int→(Int→Option R)→Option R
def en280 (F:zk1):Ent:=eV 280 [Kq44,(.int .i64)] [(.int .i64)] F
def p280 (F234:Ph):zk1:=fun R a0 a1 k=>
F234 R a0 fun y1=>
(match (!y1) with
|true=>k (1:Int)
|false=>let v2:=decide (a1<0);(match v2 with
|true=>k (3:Int)
|false=>let v3:=(a0.2.1.length:Int);let v4:=decide (a1≥v3);(match v4 with
|true=>k (3:Int)
|false=>k (0:Int))))
theorem q280 (F234:Ph):EQ (en280 (p280 F234)) (sE 0 19 [] [zd1 F234] []) Tryz.f280 [(.tmp 4,35,false)]:=fun _ _ _=>by kernel_rfl
def F280:zk1:=p280 F234
theorem ok280:OKP (en280 F280):=ST.ok0 (q280 F234) (Aa zp0 Ab) Tryz.func280
abbrev zk4:=(R:Type)→Tq44→Int→Int→(Int→Int→Option R)→Option R
def en265 (F:zk4):Ent:=eV 265 [Kq44,(.int .i64),(.int .u64)] [(.int .i64),(.int .i64)] F
def p265 (F280:zk1):zk4:=fun R a0 a1 a2 k=>
F280 R a0 a1 fun y1=>
let v2:=y1 !=0;(match v2 with
|true=>k (0:Int) y1
|false=>let v3:=decide (a2≥a0.1);(match v3 with
|true=>k (0:Int) (3:Int)
|false=>(match bnd a1 a0.2.1.length with
|true=>let v4:=a0.2.1.getD a1.toNat (0,0,());let v5:=decide (a2≥v4.1);(match v5 with
|true=>k v4.2.1 (0:Int)
|false=>k a1 (0:Int))
|false=>none)))
theorem q265 (F280:zk1):EQ (en265 (p265 F280)) (sE 0 32 [] [en280 F280] []) Tryz.f265 [(.tmp 6,3,false),(.tmp 7,35,false)]:=fun _ _ _=>by kernel_rfl
def F265:zk4:=p265 F280
theorem ok265:OKP (en265 F265):=ST.ok0 (q265 F280) (Aa ok280 Ab) Tryz.func265
abbrev zk9:=(R:Type)→Tq44→Int→(Int→Int→Option R)→Option R
def en237 (F:zk9):Ent:=eV 237 [Kq44,(.int .u64)] [(.int .i64),(.int .i64)] F
def p237 (F234:Ph) (F236:Zz) (F265:zk4):zk9:=fun R a0 a1 k=>
F234 R a0 fun y1=>
(match (!y1) with
|true=>k (0:Int) (1:Int)
|false=>F236 R a0 fun y2=>
let v3:=decide (a1≥y2);(match v3 with
|true=>k (0:Int) (3:Int)
|false=>(match (!(a0.1==0)) with
|true=>let v4:=IntKind.u64.wrap (Int.tdiv a1 a0.1);let v5:=IntKind.i64.wrap v4;(match (!(a0.1==0)) with
|true=>let v6:=Int.tmod a1 a0.1;F265 R a0 v5 v6 fun y7 y8=>
k y7 y8
|false=>none)
|false=>none)))
theorem q237 (F234:Ph) (F236:Zz) (F265:zk4):EQ (en237 (p237 F234 F236 F265)) (sE 0 28 [] [zd1 F234,zsh F236,en265 F265] []) Tryz.f237 [(.tmp 4,3,false),(.tmp 5,35,false)]:=fun _ _ _=>by kernel_rfl
def F237:zk9:=p237 F234 F236 F265
theorem ok237:OKP (en237 F237):=ST.ok0 (q237 F234 F236 F265) (Aa zp0 (Aa ok236 (Aa ok265 Ab))) Tryz.func237
abbrev zll:=(R:Type)→Tq44→Tq40→Int→(Int→Tq40→Int→Option R)→Option R
def en195 (F:zll):Ent:=eV 195 [Kq44,Kq40,(.int .i64)] [(.int .i64),Kq40,(.int .i64)] F
def p195 (F234:Ph) (F235:Z0) (F236:Zz) (F237:zk9):zll:=fun R a0 a1 a2 k=>
F234 R a0 fun y1=>
(match (!y1) with
|true=>k (0:Int) a1 (1:Int)
|false=>F236 R a0 fun y2=>
F235 R a1 y2 a2 fun y3 y4 y5=>
let v6:=y5 !=0;(match v6 with
|true=>k (0:Int) y4 y5
|false=>F237 R a0 y3 fun y7 y8=>
k y7 y4 y8))
theorem q195 (F234:Ph) (F235:Z0) (F236:Zz) (F237:zk9):EQ (en195 (p195 F234 F235 F236 F237)) (sE 0 39 [] [zd1 F234,zsi F235,zsh F236,en237 F237] []) Tryz.f195 [(.tmp 6,3,false),(.cell 7 132,132,false),(.tmp 8,35,false)]:=fun _ _ _=>by kernel_rfl
def F195:zll:=p195 F234 F235 F236 F237
theorem ok195:OKP (en195 F195):=ST.ok0 (q195 F234 F235 F236 F237) (Aa zp0 (Aa ok235 (Aa ok236 (Aa ok237 Ab)))) Tryz.func195
abbrev zlw:=(R:Type)→Tq40→Int→LI→(Int→Tq40→Int→Option R)→Option R
def en160 (F:zlw):Ent:=eV 160 [Kq40,(.int .i64),(.sl (.int .u64))] [(.int .i64),Kq40,(.int .i64)] F
def p160 (F194:zlm) (F195:zll):zlw:=fun R a0 a1 a2 k=>
F194 R a2 fun y1 y2=>
let v3:=y2 !=0;(match v3 with
|true=>k (0:Int) a0 y2
|false=>F195 R y1 a0 a1 fun y4 y5 y6=>
k y4 y5 y6)
theorem q160 (F194:zlm) (F195:zll):EQ (en160 (p160 F194 F195)) (sE 0 27 [] [en194 F194,en195 F195] []) Tryz.f160 [(.tmp 6,3,false),(.cell 7 132,132,false),(.tmp 8,35,false)]:=fun _ _ _=>by kernel_rfl
def F160:zlw:=p160 F194 F195
theorem ok160:OKP (en160 F160):=ST.ok0 (q160 F194 F195) (Aa ok194 (Aa ok195 Ab)) Tryz.func160
abbrev zl8:=(R:Type)→LI→Int→Int→LI→(Int→Int→Option R)→Option R
def en111 (F:zl8):Ent:=eV 111 [(.arr 32 (.int .u8)),(.int .i64),(.int .i64),(.sl (.int .u64))] [(.int .i64),(.int .i64)] F
def p111 (F159:Pi) (F160:zlw) (F161:Si):zl8:=fun R a0 a1 a2 a3 k=>
F159 R (a0,a2,()) a1 fun y1=>
(match (!y1) with
|true=>k (0:Int) (1:Int)
|false=>F161 R (a0,a2,()) (2:Int) a1 fun y2=>
F160 R y2 a2 a3 fun y3 y4 y5=>
k y3 y5)
theorem q111 (F159:Pi) (F160:zlw) (F161:Si):EQ (en111 (p111 F159 F160 F161)) (sE 0 33 [] [zih F159,en160 F160,zig F161] []) Tryz.f111 [(.tmp 8,3,false),(.tmp 9,35,false)]:=fun _ _ _=>by kernel_rfl
def F111:zl8:=p111 F159 F160 F161
theorem ok111:OKP (en111 F111):=ST.ok0 (q111 F159 F160 F161) (Aa zp4 (Aa ok160 (Aa zzh Ab))) Tryz.func111
abbrev FT61:=(R:Type)→Tq31→Tq13→(Int→Tq31→Option R)→Option R
def en61 (F:FT61):Ent:=eM 61 [(true,Kq31),(false,Kq13)] [(false,(.int .i64))] F
def p61 (F108:Sl) (F110:Kh) (F111:zl8):FT61:=fun R a0 a1 k=>
F108 R a0 a1.2.2.2.2.1 fun y1 p2=>
let v3:=y1 !=0;(match v3 with
|true=>k y1 p2
|false=>F110 R p2.1.2.2.1 fun y4=>
F111 R p2.1.2.2.2.1.2.1 a1.2.2.2.2.1 p2.1.1.2.2.2.1 y4 fun y5 y6=>
let v7:=([y5]:LI);k y6 (p2.1,(p2.2.1.1,p2.2.1.2.1,v7,p2.2.1.2.2.2),p2.2.2))
theorem q61 (F108:Sl) (F110:Kh) (F111:zl8):EQ (en61 (p61 F108 F110 F111)) (sE 1 46 [] [zim F108,Yi F110,en111 F111] []) Tryz.f61 [(.tmp 4,35,false)]:=fun _ _ _=>by kernel_rfl
def F61:FT61:=p61 F108 F110 F111
theorem ok61:OKP (en61 F61):=ST.ok0 (q61 F108 F110 F111) (Aa zzm (Aa zgu (Aa ok111 Ab))) Tryz.func61
abbrev Zy:=(R:Type)→Int→Tq40→Int→(Bool→Option R)→Option R
def en238 (F:Zy):Ent:=eV 238 [(.int .i64),Kq40,(.int .i64)] [.bool] F
def p238 (F266:Md):Zy:=fun R a0 a1 a2 k=>
let v1:=decide (a0≥0);(match v1 with
|true=>let v2:=decide (a0≤256);(match v2 with
|true=>F266 R a1 fun y3=>
(match y3 with
|true=>let v4:=decide (a2>0);(match v4 with
|true=>let v5:=decide (a2≤64);k v5
|false=>k false)
|false=>k false)
|false=>k false)
|false=>k false)
theorem q238 (F266:Md):EQ (en238 (p238 F266)) (sE 0 25 [] [zd0 F266] []) Tryz.f238 [(.tmp 6,4,false)]:=fun _ _ _=>by kernel_rfl
def F238:Zy:=p238 F266
theorem ok238:OKP (en238 F238):=ST.ok0 (q238 F266) (Aa zgq Ab) Tryz.func238
abbrev Zx:=(R:Type)→(LI×Unit)→(LI→Option R)→Option R
def en239 (F:Zx):Ent:=eV 239 [(.pair (.sl (.int .u64)) .unit)] [(.sl (.int .u64))] F
abbrev zns (Z:Type):=Int→LI→Z
abbrev zwh (R:Type):=(LI→Option R)→Option R
abbrev Lj:=(R:Type)→zns (zwh R)
def Xm (L:Lj):LEnt:=lM 3 [.fix 3 (.own 1 0),.val 4 (.int .i64),.row 1 (.int .u64) false] 2 [(.exit 0,[.fix 3 (.own 1 0),.row 1 (.int .u64) false])] L
def e239 (F228:Ke) (F229:Gm) (L3:Lj):=sE 0 36 [] [zsk F228,zd2 F229] [Xm L3]
def zbn (F229:Gm) (R:Type):zns (zns (Option R)→zwh R):=fun x1 x2 kc k0=>
let v3:=decide (x1>0);(match v3 with
|true=>F229 R x1 fun y4=>
let v5:=IntKind.i64.wrap (x1+y4);let v6:=(x2.length:Int);let v7:=decide (v5≤v6);(match v7 with
|true=>let v8:=IntKind.i64.wrap (v5 - 1);(match bnd v8 x2.length with
|true=>let v9:=x2.getD v8.toNat 0;let v10:=IntKind.i64.wrap (x1 - 1);(match bnd v10 x2.length with
|true=>let v11:=x2.getD v10.toNat 0;let v12:=IntKind.u64.wrap (v9 - v11);(match bnd v8 x2.length with
|true=>let v13:=x2.set v8.toNat v12;let v14:=IntKind.i64.wrap (x1 - 1);kc v14 v13
|false=>none)
|false=>none)
|false=>none)
|false=>let v15:=IntKind.i64.wrap (x1 - 1);kc v15 x2)
|false=>k0 x2)
theorem q239_3 (F228:Ke) (F229:Gm) (L3:Lj):LEQ (Xm L3) (e239 F228 F229 L3) Tryz.f239 (zbn F229):=fun _ _ _ _=>by kernel_rfl
def Mw:Nat→Lj
 | 0=>fun _ _ _ _=>none
 | n+1=>fun R x1 x2 k0=>zbn F229 R x1 x2 (fun x1 x2=>Mw n R x1 x2 k0) k0
def p239 (F228:Ke) (L3:Lj):Zx:=fun R a0 k=>
F228 R a0.1 fun y1=>
let v2:=(y1.length:Int);L3 R v2 y1 (fun x3=>
k x3)
theorem q239 (F228:Ke) (F229:Gm) (L3:Lj):EQ (en239 (p239 F228 L3)) (e239 F228 F229 L3) Tryz.f239 [(.tmp 2,63,false)]:=fun _ _ _=>by kernel_rfl
def F239:Zx:=p239 F228 (Mw FUEL)
theorem zqs:LKP (Xm (Mw FUEL)) 0 36 3 Tryz.f239:=ST.lok (q239_3 F228 F229 (Mw FUEL)) (Aa zdh (Aa Tw Ab)) [] trivial
theorem ok239:OKP (en239 F239):=ST.ok1 (q239 F228 F229 (Mw FUEL)) (Aa zdh (Aa Tw Ab)) Tryz.func239 [3] ⟨⟨_,rfl,zqs⟩,trivial⟩
abbrev Zo:=(R:Type)→(LI×Unit)→Int→(Int→Int→Option R)→Option R
def en267 (F:Zo):Ent:=eV 267 [(.pair (.sl (.int .u64)) .unit),(.int .i64)] [(.int .u64),(.int .i64)] F
def p267 (F274:Zl) (F275:Mc):Zo:=fun R a0 a1 k=>
let v1:=decide (a1<0);(match v1 with
|true=>k (0:Int) (3:Int)
|false=>F275 R a0 fun y2=>
let v3:=decide (a1≥y2);(match v3 with
|true=>k (0:Int) (3:Int)
|false=>let v4:=IntKind.i64.wrap (a1+1);F274 R a0 v4 fun y5=>
F274 R a0 a1 fun y6=>
let v7:=IntKind.u64.wrap (y5 - y6);k v7 (0:Int)))
theorem q267 (F274:Zl) (F275:Mc):EQ (en267 (p267 F274 F275)) (sE 0 22 [] [zsd F274,zia F275] []) Tryz.f267 [(.tmp 4,28,false),(.tmp 5,35,false)]:=fun _ _ _=>by kernel_rfl
def F267:Zo:=p267 F274 F275
theorem ok267:OKP (en267 F267):=ST.ok0 (q267 F274 F275) (Aa ok274 (Aa zgp Ab)) Tryz.func267
abbrev Zw:=(R:Type)→(LI×Unit)→Int→Int→((LI×Unit)→Int→Option R)→Option R
def en240 (F:Zw):Ent:=eV 240 [(.pair (.sl (.int .u64)) .unit),(.int .i64),(.int .u64)] [(.pair (.sl (.int .u64)) .unit),(.int .i64)] F
abbrev znr (Z:Type):=Int→Int→Int→(LI×Unit)→LI→Z
abbrev zwg (R:Type):=((LI×Unit)→LI→Option R)→Option R
abbrev Li:=(R:Type)→znr (zwg R)
def Xl (L:Li):LEnt:=lM 9 [.val 2 (.int .u64),.fix 6 (.ptr 1 [] (.pair (.sl (.int .u64)) .unit)),.val 8 (.int .u64),.fix 12 (.own 2 0),.val 13 (.int .i64),.var 1 (.pair (.sl (.int .u64)) .unit) false,.row 2 (.int .u64) false] 3 [(.exit 0,[.fix 6 (.ptr 1 [] (.pair (.sl (.int .u64)) .unit)),.fix 12 (.own 2 0),.var 1 (.pair (.sl (.int .u64)) .unit) false,.row 2 (.int .u64) false])] L
def e240 (F141:Kg) (F228:Ke) (F229:Gm) (F256:Kc) (F267:Zo) (L9:Li):=sE 0 64 [] [zik F141,zsk F228,zd2 F229,zib F256,en267 F267] [Xl L9]
def zf3 (F229:Gm) (R:Type):znr (znr (Option R)→zwg R):=fun x1 x2 x3 x4 x5 kc k0=>
let v6:=(x5.length:Int);let v7:=decide (x3≤v6);(match v7 with
|true=>let v8:=IntKind.i64.wrap (x3 - 1);let v9:=IntKind.i64.wrap (x3 - 1);(match bnd v9 x5.length with
|true=>let v10:=x5.getD v9.toNat 0;let v11:=IntKind.u64.wrap (v10 - x2);let v12:=IntKind.u64.wrap (v11+x1);(match bnd v8 x5.length with
|true=>let v13:=x5.set v8.toNat v12;F229 R x3 fun y14=>
let v15:=IntKind.i64.wrap (x3+y14);kc x1 x2 v15 x4 v13
|false=>none)
|false=>none)
|false=>k0 x4 x5)
theorem q240_9 (F141:Kg) (F228:Ke) (F229:Gm) (F256:Kc) (F267:Zo) (L9:Li):LEQ (Xl L9) (e240 F141 F228 F229 F256 F267 L9) Tryz.f240 (zf3 F229):=fun _ _ _ _=>by kernel_rfl
def O3:Nat→Li
 | 0=>fun _ _ _ _ _ _ _=>none
 | n+1=>fun R x1 x2 x3 x4 x5 k0=>zf3 F229 R x1 x2 x3 x4 x5 (fun x1 x2 x3 x4 x5=>O3 n R x1 x2 x3 x4 x5 k0) k0
def p240 (F141:Kg) (F228:Ke) (F256:Kc) (F267:Zo) (L9:Li):Zw:=fun R a0 a1 a2 k=>
F267 R a0 a1 fun y1 y2=>
let v3:=y2 !=0;(match v3 with
|true=>k (([]:LI),()) y2
|false=>F256 R a0 fun y4=>
let v5:=IntKind.u64.wrap (y4 - y1);F141 R v5 a2 fun y6 y7=>
(match (!y7) with
|true=>k (([]:LI),()) (11:Int)
|false=>F228 R a0.1 fun y8=>
let v9:=IntKind.i64.wrap (a1+1);L9 R a2 y1 v9 (([]:LI),()) y8 (fun x10 x11=>
k (x11,()) (0:Int))))
theorem q240 (F141:Kg) (F228:Ke) (F229:Gm) (F256:Kc) (F267:Zo) (L9:Li):EQ (en240 (p240 F141 F228 F256 F267 L9)) (e240 F141 F228 F229 F256 F267 L9) Tryz.f240 [(.cell 6 87,87,false),(.tmp 7,35,false)]:=fun _ _ _=>by kernel_rfl
def F240:Zw:=p240 F141 F228 F256 F267 (O3 FUEL)
theorem zqr:LKP (Xl (O3 FUEL)) 0 64 9 Tryz.f240:=ST.lok (q240_9 F141 F228 F229 F256 F267 (O3 FUEL)) (Aa zgs (Aa zdh (Aa Tw (Aa zdg (Aa ok267 Ab))))) [] trivial
theorem ok240:OKP (en240 F240):=ST.ok1 (q240 F141 F228 F229 F256 F267 (O3 FUEL)) (Aa zgs (Aa zdh (Aa Tw (Aa zdg (Aa ok267 Ab))))) Tryz.func240 [9] ⟨⟨_,rfl,zqr⟩,trivial⟩
abbrev zli:=(R:Type)→(LI×Unit)→Int→Tq40→Int→(LI→Tq40→Int→Option R)→Option R
def en198 (F:zli):Ent:=eV 198 [(.pair (.sl (.int .u64)) .unit),(.int .i64),Kq40,(.int .i64)] [(.sl (.int .i64)),Kq40,(.int .i64)] F
abbrev zn0 (Z:Type):=Int→Int→(LI×Unit)→Tq40→LI→Tq40→Z
abbrev zwp (R:Type):=(Int→Tq40→Option R)→(Tq40→LI→Tq40→Option R)→Option R
abbrev Lp:=(R:Type)→zn0 (zwp R)
def Xs (L:Lp):LEnt:=lM 5 [.val 1 (.int .i64),.val 3 (.int .i64),.fix 4 (.ptr 0 [] (.pair (.sl (.int .u64)) .unit)),.fix 6 (.ptr 1 [] Kq40),.fix 8 (.own 2 0),.fix 9 (.ptr 3 [] Kq40),.var 0 (.pair (.sl (.int .u64)) .unit) false,.var 1 Kq40 false,.row 2 (.int .i64) false,.var 3 Kq40 false] 4 [(.ret,[.fix 8 .nil,.fix 9 (.ptr 3 [] Kq40),.val 10 (.int .i64),.var 3 Kq40 false]),(.exit 1,[.fix 6 (.ptr 1 [] Kq40),.fix 8 (.own 2 0),.fix 9 (.ptr 3 [] Kq40),.var 1 Kq40 false,.row 2 (.int .i64) false,.var 3 Kq40 false])] L
def e198 (F109:Sk) (F230:Sf) (F238:Zy) (F239:Zx) (F240:Zw) (L5:Lp):=sE 0 61 [(0,2)] [zsw F109,zsj F230,en238 F238,en239 F239,en240 F240] [Xs L5]
def zbp (F230:Sf) (F240:Zw) (R:Type):zn0 (zn0 (Option R)→zwp R):=fun x1 x2 x3 x4 x5 x6 kc k0 k1=>
let v7:=(x5.length:Int);let v8:=decide (v7<x1);(match v8 with
|true=>F230 R x3 x4 x2 fun y9 y10 y11=>
let v12:=y11 !=0;(match v12 with
|true=>k0 y11 y10
|false=>let v13:=([y9]:LI);(match (decide (x5.length+v13.length≤17592186044416)) with
|true=>let v14:=x5++v13;F240 R x3 y9 (0:Int) fun y15 y16=>
let v17:=y16 !=0;(match v17 with
|true=>k0 y16 y10
|false=>kc x1 x2 y15 y10 v14 x6)
|false=>none))
|false=>k1 x4 x5 x6)
theorem q198_5 (F109:Sk) (F230:Sf) (F238:Zy) (F239:Zx) (F240:Zw) (L5:Lp):LEQ (Xs L5) (e198 F109 F230 F238 F239 F240 L5) Tryz.f198 (zbp F230 F240):=fun _ _ _ _=>by kernel_rfl
def My:Nat→Lp
 | 0=>fun _ _ _ _ _ _ _ _ _=>none
 | n+1=>fun R x1 x2 x3 x4 x5 x6 k0 k1=>zbp F230 F240 R x1 x2 x3 x4 x5 x6 (fun x1 x2 x3 x4 x5 x6=>My n R x1 x2 x3 x4 x5 x6 k0 k1) k0 k1
def p198 (F109:Sk) (F238:Zy) (F239:Zx) (L5:Lp):zli:=fun R a0 a1 a2 a3 k=>
F238 R a1 a2 a3 fun y1=>
(match (!y1) with
|true=>k ([]:LI) a2 (1:Int)
|false=>F239 R a0 fun y2=>
F109 R y2 fun y3=>
let v4:=decide (y3<a1);(match v4 with
|true=>k ([]:LI) a2 (12:Int)
|false=>L5 R a1 a3 a0 a2 ([]:LI) ((0:Int),([]:LI),(0:Int),(List.replicate 32 (0:Int)),(0:Int),(0:Int),()) (fun x5 x6=>
k ([]:LI) x6 x5) (fun x7 x8 x9=>
k x8 x7 (0:Int))))
theorem q198 (F109:Sk) (F230:Sf) (F238:Zy) (F239:Zx) (F240:Zw) (L5:Lp):EQ (en198 (p198 F109 F238 F239 L5)) (e198 F109 F230 F238 F239 F240 L5) Tryz.f198 [(.tmp 8,32,false),(.cell 9 132,132,false),(.tmp 10,35,false)]:=fun _ _ _=>by kernel_rfl
def F198:zli:=p198 F109 F238 F239 (My FUEL)
theorem zqy:LKP (Xs (My FUEL)) 0 61 5 Tryz.f198:=ST.lok (q198_5 F109 F230 F238 F239 F240 (My FUEL)) (Aa zzl (Aa zy7 (Aa ok238 (Aa ok239 (Aa ok240 Ab))))) [] trivial
theorem ok198:OKP (en198 F198):=ST.ok1 (q198 F109 F230 F238 F239 F240 (My FUEL)) (Aa zzl (Aa zy7 (Aa ok238 (Aa ok239 (Aa ok240 Ab))))) Tryz.func198 [5] ⟨⟨_,rfl,zqy⟩,trivial⟩
abbrev zlv:=(R:Type)→Int→Tq40→Int→LI→(LI→Tq40→Int→Option R)→Option R
def en162 (F:zlv):Ent:=eV 162 [(.int .i64),Kq40,(.int .i64),(.sl (.int .u64))] [(.sl (.int .i64)),Kq40,(.int .i64)] F
def p162 (F192:Sg) (F198:zli):zlv:=fun R a0 a1 a2 a3 k=>
F192 R a3 fun y1 y2=>
let v3:=y2 !=0;(match v3 with
|true=>k ([]:LI) a1 y2
|false=>F198 R y1 a0 a1 a2 fun y4 y5 y6=>
k y4 y5 y6)
theorem q162 (F192:Sg) (F198:zli):EQ (en162 (p162 F192 F198)) (sE 0 30 [] [zsm F192,en198 F198] []) Tryz.f162 [(.tmp 8,32,false),(.cell 9 132,132,false),(.tmp 10,35,false)]:=fun _ _ _=>by kernel_rfl
def F162:zlv:=p162 F192 F198
theorem ok162:OKP (en162 F162):=ST.ok0 (q162 F192 F198) (Aa zzb (Aa ok198 Ab)) Tryz.func162
abbrev zl7:=(R:Type)→LI→Int→Int→Int→LI→(LI→Int→Option R)→Option R
def en112 (F:zl7):Ent:=eV 112 [(.arr 32 (.int .u8)),(.int .i64),(.int .i64),(.int .i64),(.sl (.int .u64))] [(.sl (.int .i64)),(.int .i64)] F
def p112 (F159:Pi) (F161:Si) (F162:zlv):zl7:=fun R a0 a1 a2 a3 a4 k=>
F159 R (a0,a3,()) a1 fun y1=>
(match (!y1) with
|true=>k ([]:LI) (1:Int)
|false=>F161 R (a0,a3,()) (3:Int) a1 fun y2=>
F162 R a2 y2 a3 a4 fun y3 y4 y5=>
k y3 y5)
theorem q112 (F159:Pi) (F161:Si) (F162:zlv):EQ (en112 (p112 F159 F161 F162)) (sE 0 36 [] [zih F159,zig F161,en162 F162] []) Tryz.f112 [(.tmp 10,32,false),(.tmp 11,35,false)]:=fun _ _ _=>by kernel_rfl
def F112:zl7:=p112 F159 F161 F162
theorem ok112:OKP (en112 F112):=ST.ok0 (q112 F159 F161 F162) (Aa zp4 (Aa zzh (Aa ok162 Ab))) Tryz.func112
abbrev FT62:=(R:Type)→Tq31→Tq13→(Int→Tq31→Option R)→Option R
def en62 (F:FT62):Ent:=eM 62 [(true,Kq31),(false,Kq13)] [(false,(.int .i64))] F
def p62 (F108:Sl) (F110:Kh) (F112:zl7):FT62:=fun R a0 a1 k=>
F108 R a0 a1.2.2.2.2.1 fun y1 p2=>
let v3:=y1 !=0;(match v3 with
|true=>k y1 p2
|false=>F110 R p2.1.2.2.1 fun y4=>
F112 R p2.1.2.2.2.1.2.1 a1.2.2.2.2.1 a1.2.1 p2.1.1.2.2.2.1 y4 fun y5 y6=>
k y6 (p2.1,(p2.2.1.1,p2.2.1.2.1,y5,p2.2.1.2.2.2),p2.2.2))
theorem q62 (F108:Sl) (F110:Kh) (F112:zl7):EQ (en62 (p62 F108 F110 F112)) (sE 1 44 [] [zim F108,Yi F110,en112 F112] []) Tryz.f62 [(.tmp 4,35,false)]:=fun _ _ _=>by kernel_rfl
def F62:FT62:=p62 F108 F110 F112
theorem ok62:OKP (en62 F62):=ST.ok0 (q62 F108 F110 F112) (Aa zzm (Aa zgu (Aa ok112 Ab))) Tryz.func62
abbrev FT63:=(R:Type)→Tq31→Tq13→(Int→Tq31→Option R)→Option R
def en63 (F:FT63):Ent:=eM 63 [(true,Kq31),(false,Kq13)] [(false,(.int .i64))] F
def p63 (F100:Pj):FT63:=fun R a0 a1 k=>
F100 R a0 a1.2.1 fun y1 p2=>
let v3:=y1 !=0;(match v3 with
|true=>k y1 p2
|false=>(match bnd a1.2.1 p2.1.2.2.1.length with
|true=>let v4:=p2.1.2.2.1.getD a1.2.1.toNat ((List.replicate 32 0),0,0,());let v5:=a1.2.2.2.2.1==0;(match v5 with
|true=>k (0:Int) (p2.1,(p2.2.1.1,v4.2.1,p2.2.1.2.2),p2.2.2)
|false=>k (0:Int) (p2.1,(p2.2.1.1,v4.2.2.1,p2.2.1.2.2),p2.2.2))
|false=>none))
theorem q63 (F100:Pj):EQ (en63 (p63 F100)) (sE 1 38 [] [zin F100] []) Tryz.f63 [(.tmp 4,35,false)]:=fun _ _ _=>by kernel_rfl
def F63:FT63:=p63 F100
theorem ok63:OKP (en63 F63):=ST.ok0 (q63 F100) (Aa zzn Ab) Tryz.func63
abbrev FT64:=(R:Type)→Tq31→Tq13→(Int→Tq31→Option R)→Option R
def en64 (F:FT64):Ent:=eM 64 [(true,Kq31),(false,Kq13)] [(false,(.int .i64))] F
def p64:FT64:=fun R a0 a1 k=>
k (0:Int) (a0.1,(a0.2.1.1,a0.1.2.2.2.1.1,a0.2.1.2.2.1,a0.1.2.2.2.1.2.1,a0.2.1.2.2.2.2),a0.2.2)
theorem q64:EQ (en64 p64) (sE 1 25 [] [] []) Tryz.f64 [(.tmp 4,35,false)]:=fun _ _ _=>by kernel_rfl
def F64:FT64:=p64
theorem ok64:OKP (en64 F64):=ST.ok0 q64 Ab Tryz.func64
abbrev Z1:Type 1:=(R:Type)→LI→(LI→Option R)→Option R
def en200 (F:Z1):Ent:=⟨200,[(false,(.sl (.int .u8)))],[(true,(.int .u8))],fun R x k=>F R x.1 (fun y1=>k (y1,()) ())⟩
def e200:Env (RT [(true,(.int .u8))]):=⟨TT,EQT,0,8,Bo [(2,0),(3,0)],fun _ _ _=>none,fun _ _ _=>none,[],Bd [],[]⟩
def F200:Z1:=fun R a0 k=>match decide (List.length ([]:LI)+a0.length≤140737488355328) with | true=>k a0 | false=>none
theorem ok200:(en200 F200).OK Tryz.prog:=
 H8 (e:=(.int .u8)) e200 ⟨tabOK,eqOK,(fun f b K r h=>by cases h),Bs,Ak⟩ mixed Tryz.func200 (body:=Ag Tryz.f200) (by kernel_rfl) (by kernel_rfl) (by kernel_rfl) (res:=[(.tmp 2,93,true)]) (by kernel_rfl) rfl (by decide) (by kernel_rfl) (lim:=140737488355328) (by kernel_rfl) (fun l=>by kernel_rfl)
abbrev zlu:=(R:Type)→(Tq9→Option R)→Option R
def en163 (F:zlu):Ent:=eV 163 [] [Kq9] F
def p163:zlu:=fun R k=>
k ((32:Int),(FnV.fn 199),(FnV.fn 201),())
theorem q163:EQ (en163 p163) (sE 0 2 [] [] []) Tryz.f163 [(.cell 0 167,167,false)]:=fun _ _ _=>by kernel_rfl
def F163:zlu:=p163
theorem ok163:OKP (en163 F163):=ST.ok0 q163 Ab Tryz.func163
abbrev Vu:=(R:Type)→LI→(Int→Option R)→Option R
def zsl (F:Vu):Ent:=eV 205 [(.arr 8 (.int .u8))] [(.int .u64)] F
abbrev zny (Z:Type):=Int→LI→Int→Z
abbrev zwn (R:Type):=(Int→Option R)→Option R
abbrev Ln:=(R:Type)→zny (zwn R)
def Xq (L:Ln):LEnt:=lM 2 [.val 2 (.int .u64),.val 5 (.arr 8 (.int .u8)),.val 6 (.int .i64)] 0 [(.exit 0,[.val 2 (.int .u64)])] L
def e205 (L2:Ln):=sE 0 16 [] [] [Xq L2]
def zf6 (R:Type):zny (zny (Option R)→zwn R):=fun x1 x2 x3 kc k0=>
let v4:=decide (x3<8);(match v4 with
|true=>(match (bnd x3 (8:Int)) with
|true=>let v5:=x2.getD x3.toNat 0;let v6:=ishl .u64 x1 (8:Int);let v7:=IntKind.u64.wrap v5;let v8:=ior .u64 v6 v7;let v9:=IntKind.i64.wrap (x3+1);kc v8 x2 v9
|false=>none)
|false=>k0 x1)
theorem q205_2 (L2:Ln):LEQ (Xq L2) (e205 L2) Tryz.f205 zf6:=fun _ _ _ _=>by kernel_rfl
def Qv:Nat→Ln
 | 0=>fun _ _ _ _ _=>none
 | n+1=>fun R x1 x2 x3 k0=>zf6 R x1 x2 x3 (fun x1 x2 x3=>Qv n R x1 x2 x3 k0) k0
def p205 (L2:Ln):Vu:=fun R a0 k=>
L2 R (0:Int) a0 (0:Int) (fun x1=>
k x1)
theorem q205 (L2:Ln):EQ (zsl (p205 L2)) (e205 L2) Tryz.f205 [(.tmp 2,28,false)]:=fun _ _ _=>by kernel_rfl
def F205:Vu:=p205 (Qv FUEL)
theorem zqw:LKP (Xq (Qv FUEL)) 0 16 2 Tryz.f205:=ST.lok (q205_2 (Qv FUEL)) Ab [] trivial
theorem ok205:OKP (zsl F205):=ST.ok1 (q205 (Qv FUEL)) Ab Tryz.func205 [2] ⟨⟨_,rfl,zqw⟩,trivial⟩
abbrev zlt:=(R:Type)→(Tq9→Option R)→Option R
def en164 (F:zlt):Ent:=eV 164 [] [Kq9] F
def p164:zlt:=fun R k=>
k ((8:Int),(FnV.fn 202),(FnV.fn 204),())
theorem q164:EQ (en164 p164) (sE 0 2 [] [] []) Tryz.f164 [(.cell 0 167,167,false)]:=fun _ _ _=>by kernel_rfl
def F164:zlt:=p164
theorem ok164:OKP (en164 F164):=ST.ok0 q164 Ab Tryz.func164
abbrev Gp:Type 1:=(R:Type)→(Tq9→Option R)→Option R
def Ff (F:Gp):EntF:=⟨206,207,[],[(false,Kq9)],fun R x k=>F R  (fun y1=>k (y1,()) ())⟩
def Tl:List (ResultVar×TypeId×Bool):=[(.cell 2 167,167,false)]
def Yl (R:Type):Env R:=⟨TT,EQT,0,6,Bo [],Bc [] R,Bf [] R,[],Bd [],[]⟩
def Wp:Gp:=fun R k=>
k ((4:Int),(FnV.clo 241 (FnV.fn 207)),(FnV.clo 243 (FnV.fn 207)),())
theorem zx8 (F:Gp) (R:Type) (x:AT (Ff F).ins) (k:RT (Ff F).outs→PT (Ff F).ins→Option R):
 xfun (Yl R) (Ag Tryz.f206) Tl (avs (Ff F).ins x++[AV.fn 207]) (finK (Ff F).outs (Ff F).ins k)=Wp R  (fun y1=>k (y1,()) ()):=by kernel_rfl
def Do:Gp:=Wp
theorem zh6 (R:Type):Az Tryz.prog (Yl R):=⟨tabOK,eqOK,Aq Ab,Bs,Ak⟩
theorem zp2:(Ff Do).OK Tryz.prog:=
 Iv (Ef:=fun R=>Yl R) (fun R=>zh6 R) mixed Tryz.func206 (body:=Ag Tryz.f206) (by kernel_rfl) (by kernel_rfl) (np:=0) (nt:=6) (fun _=>rfl) (fun _=>rfl) (by kernel_rfl) (res:=Tl) (by kernel_rfl) (fun _=>rfl) (fun _=>Nat.le_of_ble_eq_true rfl) (by
  intro R;rw [show Ap (Ag Tryz.f206)=[] from by kernel_rfl];exact Bp) (fun R x k=>zx8 Do R x k)
abbrev zls:=(R:Type)→(Tq9→Option R)→Option R
def en165 (F:zls):Ent:=eV 165 [] [Kq9] F
def e165 (Do:Gp) (R:Type):Env R:=⟨TT,EQT,0,2,Bo [],D7 [Ff Do] [] R,Bf [] R,[],Bd [],[]⟩
def p165 (Do:Gp):zls:=fun R k=>
Do R  fun y1=>
k y1
theorem q165 (Do:Gp):EQ (en165 (p165 Do)) (e165 Do) Tryz.f165 [(.cell 0 167,167,false)]:=fun _ _ _=>by kernel_rfl
def F165:zls:=p165 Do
theorem env165 (R:Type):Az Tryz.prog (e165 Do R):=⟨tabOK,eqOK,Cj (E7 zp2 Ed) Ab,Bs,Ak⟩
theorem ok165:OKP (en165 F165):=ST.ok3 (q165 Do) env165 Tryz.func165 (fun _=>rfl) (fun _=>rfl) (fun _=>rfl) [] trivial
abbrev Gn:Type 1:=(R:Type)→(Tq9→Option R)→Option R
def Fe (F:Gn):EntF:=⟨206,208,[],[(false,Kq9)],fun R x k=>F R  (fun y1=>k (y1,()) ())⟩
def Tk:List (ResultVar×TypeId×Bool):=[(.cell 2 167,167,false)]
def Yk (R:Type):Env R:=⟨TT,EQT,0,6,Bo [],Bc [] R,Bf [] R,[],Bd [],[]⟩
def Wo:Gn:=fun R k=>
k ((4:Int),(FnV.clo 241 (FnV.fn 208)),(FnV.clo 243 (FnV.fn 208)),())
theorem zx7 (F:Gn) (R:Type) (x:AT (Fe F).ins) (k:RT (Fe F).outs→PT (Fe F).ins→Option R):
 xfun (Yk R) (Ag Tryz.f206) Tk (avs (Fe F).ins x++[AV.fn 208]) (finK (Fe F).outs (Fe F).ins k)=Wo R  (fun y1=>k (y1,()) ()):=by kernel_rfl
def Dn:Gn:=Wo
theorem zh5 (R:Type):Az Tryz.prog (Yk R):=⟨tabOK,eqOK,Aq Ab,Bs,Ak⟩
theorem zp1:(Fe Dn).OK Tryz.prog:=
 Iv (Ef:=fun R=>Yk R) (fun R=>zh5 R) mixed Tryz.func206 (body:=Ag Tryz.f206) (by kernel_rfl) (by kernel_rfl) (np:=0) (nt:=6) (fun _=>rfl) (fun _=>rfl) (by kernel_rfl) (res:=Tk) (by kernel_rfl) (fun _=>rfl) (fun _=>Nat.le_of_ble_eq_true rfl) (by
  intro R;rw [show Ap (Ag Tryz.f206)=[] from by kernel_rfl];exact Bp) (fun R x k=>zx7 Dn R x k)
abbrev zlr:=(R:Type)→(Tq9→Option R)→Option R
def en166 (F:zlr):Ent:=eV 166 [] [Kq9] F
def e166 (Dn:Gn) (R:Type):Env R:=⟨TT,EQT,0,2,Bo [],D7 [Fe Dn] [] R,Bf [] R,[],Bd [],[]⟩
def p166 (Dn:Gn):zlr:=fun R k=>
Dn R  fun y1=>
k y1
theorem q166 (Dn:Gn):EQ (en166 (p166 Dn)) (e166 Dn) Tryz.f166 [(.cell 0 167,167,false)]:=fun _ _ _=>by kernel_rfl
def F166:zlr:=p166 Dn
theorem env166 (R:Type):Az Tryz.prog (e166 Dn R):=⟨tabOK,eqOK,Cj (E7 zp1 Ed) Ab,Bs,Ak⟩
theorem ok166:OKP (en166 F166):=ST.ok3 (q166 Dn) env166 Tryz.func166 (fun _=>rfl) (fun _=>rfl) (fun _=>rfl) [] trivial
abbrev Jf:=(R:Type)→Int→((List Tq9)→Bool→Option R)→Option R
def zil (F:Jf):Ent:=eV 113 [(.int .i64)] [(.sl Kq9),.bool] F
def p113 (F163:zlu) (F164:zlt) (F165:zls) (F166:zlr):Jf:=fun R a0 k=>
let v1:=a0==1;(match v1 with
|true=>F163 R  fun y2=>
F164 R  fun y3=>
let v4:=([y2,y3]:(List Tq9));k v4 true
|false=>let v5:=a0==2;(match v5 with
|true=>F165 R  fun y6=>
F164 R  fun y7=>
let v8:=([y6,y7]:(List Tq9));k v8 true
|false=>let v9:=a0==3;(match v9 with
|true=>F165 R  fun y10=>
F164 R  fun y11=>
let v12:=([y10,y11]:(List Tq9));k v12 true
|false=>let v13:=a0==4;(match v13 with
|true=>F165 R  fun y14=>
F163 R  fun y15=>
let v16:=([y14,y15]:(List Tq9));k v16 true
|false=>let v17:=a0==5;(match v17 with
|true=>F165 R  fun y18=>
F163 R  fun y19=>
let v20:=([y18,y19]:(List Tq9));k v20 true
|false=>let v21:=a0==6;(match v21 with
|true=>k ([]:(List Tq9)) true
|false=>let v22:=a0==11;(match v22 with
|true=>k ([]:(List Tq9)) true
|false=>let v23:=a0==7;(match v23 with
|true=>F166 R  fun y24=>
let v25:=([y24]:(List Tq9));k v25 true
|false=>let v26:=a0==8;(match v26 with
|true=>F166 R  fun y27=>
let v28:=([y27]:(List Tq9));k v28 true
|false=>let v29:=a0==9;(match v29 with
|true=>F166 R  fun y30=>
F165 R  fun y31=>
let v32:=([y30,y31]:(List Tq9));k v32 true
|false=>let v33:=a0==10;(match v33 with
|true=>F165 R  fun y34=>
F166 R  fun y35=>
let v36:=([y34,y35]:(List Tq9));k v36 true
|false=>k ([]:(List Tq9)) false)))))))))))
theorem q113 (F163:zlu) (F164:zlt) (F165:zls) (F166:zlr):EQ (zil (p113 F163 F164 F165 F166)) (sE 0 40 [] [en163 F163,en164 F164,en165 F165,en166 F166] []) Tryz.f113 [(.tmp 2,162,false),(.tmp 3,4,false)]:=fun _ _ _=>by kernel_rfl
def F113:Jf:=p113 F163 F164 F165 F166
theorem zp7:OKP (zil F113):=ST.ok0 (q113 F163 F164 F165 F166) (Aa ok163 (Aa ok164 (Aa ok165 (Aa ok166 Ab)))) Tryz.func113
abbrev FT65:=(R:Type)→Tq13→(LI→Option R)→Option R
def en65 (F:FT65):Ent:=eV 65 [Kq13] [(.sl (.int .u8))] F
abbrev D65_6 (Z:Type):=(List Tq9)→Int→Int→Tq13→LI→Z
abbrev E65_6 (R:Type):=(LI→Option R)→Option R
abbrev Qh:=(R:Type)→D65_6 (E65_6 R)
def zhc (L:Qh):LEnt:=lM 6 [.fix 1 (.ptr 0 [] Kq13),.fix 5 (.own 1 0),.val 24 (.sl Kq9),.val 25 (.int .i64),.val 26 (.int .i64),.var 0 Kq13 false,.row 1 (.int .u8) false] 2 [(.exit 0,[.fix 5 (.own 1 0),.row 1 (.int .u8) false])] L
def zub (F200:Z1) (R:Type):Env R:=⟨TT,EQT,0,6,Bo [],Bc [en200 F200] R,fun _ _ _=>none,[],Bd [],[]⟩
theorem zr7 (R:Type):Az Tryz.prog (zub F200 R):=⟨tabOK,eqOK,Aq (Aa ok200 Ab),Bs,Ak⟩
def zt9 (F203:Kf) (R:Type):Env R:=⟨TT,EQT,0,8,Bo [],Bc [Yh F203] R,fun _ _ _=>none,[],Bd [],[]⟩
theorem zr5 (R:Type):Az Tryz.prog (zt9 F203 R):=⟨tabOK,eqOK,Aq (Aa zgr Ab),Bs,Ak⟩
def zit (R:Type):Env R:=⟨TT,EQT,0,6,Bo [],Bc [] R,fun _ _ _=>none,[],Bd [],[]⟩
theorem zca (R:Type):Az Tryz.prog (zit R):=⟨tabOK,eqOK,Aq Ab,Bs,Ak⟩
def zis (R:Type):Env R:=⟨TT,EQT,0,6,Bo [],Bc [] R,fun _ _ _=>none,[],Bd [],[]⟩
theorem zb9 (R:Type):Az Tryz.prog (zis R):=⟨tabOK,eqOK,Aq Ab,Bs,Ak⟩
def zt6 (F242:Nb) (R:Type):Env R:=⟨TT,EQT,0,12,Bo [(1,1)],Bc [zie F242] R,fun _ _ _=>none,[],Bd [(207,xinl (zit R) (Ag Tryz.f207) [.tmp 2] 1),(208,xinl (zis R) (Ag Tryz.f208) [.tmp 2] 1)],[(FnV.fn 207),(FnV.fn 208)]⟩
theorem zr2 (R:Type):Az Tryz.prog (zt6 F242 R):=⟨tabOK,eqOK,Aq (Aa zpz Ab),Bs,(A3 (A9 (zca R) mixed Tryz.func207 (body:=Ag Tryz.f207) (by kernel_rfl) (by kernel_rfl) (by kernel_rfl) (res:=[.tmp 2]) (by kernel_rfl) (n:=1) (Nat.le_of_ble_eq_true rfl) (by kernel_rfl)) (A3 (A9 (zb9 R) mixed Tryz.func208 (body:=Ag Tryz.f208) (by kernel_rfl) (by kernel_rfl) (by kernel_rfl) (res:=[.tmp 2]) (by kernel_rfl) (n:=1) (Nat.le_of_ble_eq_true rfl) (by kernel_rfl)) Ak))⟩
def e65 (F113:Jf) (F200:Z1) (F203:Kf) (F242:Nb) (L6:Qh) (R:Type):Env R:=⟨TT,EQT,0,38,Bo [(4,3),(8,4)],Bc [zil F113,en200 F200,Yh F203,zie F242] R,Bf [zhc L6] R,[],Bd [(199,xinl (zub F200 R) (Ag Tryz.f199) [.tmp 2] 1),(202,xinl (zt9 F203 R) (Ag Tryz.f202) [.tmp 2] 1),(241,xinl (zt6 F242 R) (Ag Tryz.f241) [.tmp 3] 2)],[(FnV.fn 199),(FnV.fn 202),(FnV.clo 241 (FnV.fn 207)),(FnV.clo 241 (FnV.fn 208))]⟩
def zyn (F200:Z1) (F203:Kf) (F242:Nb) (R:Type):D65_6 (D65_6 (Option R)→E65_6 R):=fun x1 x2 x3 x4 x5 kc k0=>
let v6:=decide (x3<x2);(match v6 with
|true=>(match bnd x3 x1.length with
|true=>let v7:=x1.getD x3.toNat (0,FnV.nil,FnV.nil,());(match (FnV.same v7.2.1 (FnV.fn 199)) with
|true=>F200 R (List.take 32 (List.drop 0 x4.2.2.2.1)) fun y8=>
(match (decide (x5.length+y8.length≤140737488355328)) with
|true=>let v9:=x5++y8;let v10:=IntKind.i64.wrap (x3+1);kc x1 x2 v10 x4 v9
|false=>none)
|false=>(match (FnV.same v7.2.1 (FnV.fn 202)) with
|true=>F203 R x4.2.2.1 fun y11=>
(match (decide (x5.length+List.length (List.take 8 (List.drop 0 y11))≤140737488355328)) with
|true=>let v12:=x5++(List.take 8 (List.drop 0 y11));let v13:=IntKind.i64.wrap (x3+1);kc x1 x2 v13 x4 v12
|false=>none)
|false=>(match (FnV.same v7.2.1 (FnV.clo 241 (FnV.fn 207))) with
|true=>let v14:=IntKind.u32.wrap x4.2.1;F242 R v14 fun y15=>
(match (decide (x5.length+List.length (List.take 4 (List.drop 0 y15))≤140737488355328)) with
|true=>let v16:=x5++(List.take 4 (List.drop 0 y15));let v17:=IntKind.i64.wrap (x3+1);kc x1 x2 v17 x4 v16
|false=>none)
|false=>(match (FnV.same v7.2.1 (FnV.clo 241 (FnV.fn 208))) with
|true=>let v18:=IntKind.u32.wrap x4.2.2.2.2.1;F242 R v18 fun y19=>
(match (decide (x5.length+List.length (List.take 4 (List.drop 0 y19))≤140737488355328)) with
|true=>let v20:=x5++(List.take 4 (List.drop 0 y19));let v21:=IntKind.i64.wrap (x3+1);kc x1 x2 v21 x4 v20
|false=>none)
|false=>none))))
|false=>none)
|false=>k0 x5)
theorem q65_6 (F113:Jf) (F200:Z1) (F203:Kf) (F242:Nb) (L6:Qh):LEQ (zhc L6) (e65 F113 F200 F203 F242 L6) Tryz.f65 (zyn F200 F203 F242):=fun _ _ _ _=>by kernel_rfl
def U5:Nat→Qh
 | 0=>fun _ _ _ _ _ _ _=>none
 | n+1=>fun R x1 x2 x3 x4 x5 k0=>zyn F200 F203 F242 R x1 x2 x3 x4 x5 (fun x1 x2 x3 x4 x5=>U5 n R x1 x2 x3 x4 x5 k0) k0
def p65 (F113:Jf) (L6:Qh):FT65:=fun R a0 k=>
F113 R a0.1 fun y1 y2=>
(match (!y2) with
|true=>let v3:=IntKind.u8.wrap a0.2.2.2.2.1;let v4:=([v3]:LI);k v4
|false=>let v5:=IntKind.u8.wrap a0.1;let v6:=([v5]:LI);let v7:=(y1.length:Int);L6 R y1 v7 (0:Int) a0 v6 (fun x8=>
k x8))
theorem q65 (F113:Jf) (F200:Z1) (F203:Kf) (F242:Nb) (L6:Qh):EQ (en65 (p65 F113 L6)) (e65 F113 F200 F203 F242 L6) Tryz.f65 [(.tmp 2,93,false)]:=fun _ _ _=>by kernel_rfl
def F65:FT65:=p65 F113 (U5 FUEL)
theorem env65 (R:Type):Az Tryz.prog (e65 F113 F200 F203 F242 (U5 FUEL) R):=⟨tabOK,eqOK,Aq (Aa zp7 (Aa ok200 (Aa zgr (Aa zpz Ab)))),Bs,(A3 (A9 (zr7 R) mixed Tryz.func199 (body:=Ag Tryz.f199) (by kernel_rfl) (by kernel_rfl) (by kernel_rfl) (res:=[.tmp 2]) (by kernel_rfl) (n:=1) (Nat.le_of_ble_eq_true rfl) (by kernel_rfl)) (A3 (A9 (zr5 R) mixed Tryz.func202 (body:=Ag Tryz.f202) (by kernel_rfl) (by kernel_rfl) (by kernel_rfl) (res:=[.tmp 2]) (by kernel_rfl) (n:=1) (Nat.le_of_ble_eq_true rfl) (by kernel_rfl)) (A3 (A9 (zr2 R) mixed Tryz.func241 (body:=Ag Tryz.f241) (by kernel_rfl) (by kernel_rfl) (by kernel_rfl) (res:=[.tmp 3]) (by kernel_rfl) (n:=2) (Nat.le_of_ble_eq_true rfl) (by kernel_rfl)) Ak)))⟩
theorem zzy:LKP (zhc (U5 FUEL)) 0 38 6 Tryz.f65:=ST.lok3 (q65_6 F113 F200 F203 F242 (U5 FUEL)) env65 (fun _=>rfl) (fun _=>rfl) (fun _=>rfl) [] trivial
theorem ok65:OKP (en65 F65):=ST.ok3 (q65 F113 F200 F203 F242 (U5 FUEL)) env65 Tryz.func65 (fun _=>rfl) (fun _=>rfl) (fun _=>rfl) [6] ⟨⟨_,rfl,zzy⟩,trivial⟩
abbrev zl6:=(R:Type)→Int→(Int→Bool→Option R)→Option R
def en114 (F:zl6):Ent:=eV 114 [(.int .i64)] [(.int .i64),.bool] F
abbrev zoz (Z:Type):=Int→(List Tq9)→Int→Int→Z
abbrev zxo (R:Type):=(Int→Option R)→Option R
abbrev Lz:=(R:Type)→zoz (zxo R)
def Ya (L:Lz):LEnt:=lM 6 [.val 6 (.int .i64),.val 16 (.sl Kq9),.val 17 (.int .i64),.val 18 (.int .i64)] 0 [(.exit 0,[.val 6 (.int .i64)])] L
def e114 (F113:Jf) (L6:Lz):=sE 0 28 [] [zil F113] [Ya L6]
def zgn (R:Type):zoz (zoz (Option R)→zxo R):=fun x1 x2 x3 x4 kc k0=>
let v5:=decide (x4<x3);(match v5 with
|true=>(match bnd x4 x2.length with
|true=>let v6:=x2.getD x4.toNat (0,FnV.nil,FnV.nil,());let v7:=IntKind.i64.wrap (x1+v6.1);let v8:=IntKind.i64.wrap (x4+1);kc v7 x2 x3 v8
|false=>none)
|false=>k0 x1)
theorem q114_6 (F113:Jf) (L6:Lz):LEQ (Ya L6) (e114 F113 L6) Tryz.f114 zgn:=fun _ _ _ _=>by kernel_rfl
def Pf:Nat→Lz
 | 0=>fun _ _ _ _ _ _=>none
 | n+1=>fun R x1 x2 x3 x4 k0=>zgn R x1 x2 x3 x4 (fun x1 x2 x3 x4=>Pf n R x1 x2 x3 x4 k0) k0
def p114 (F113:Jf) (L6:Lz):zl6:=fun R a0 k=>
F113 R a0 fun y1 y2=>
(match (!y2) with
|true=>k (0:Int) false
|false=>let v3:=(y1.length:Int);L6 R (1:Int) y1 v3 (0:Int) (fun x4=>
k x4 true))
theorem q114 (F113:Jf) (L6:Lz):EQ (en114 (p114 F113 L6)) (e114 F113 L6) Tryz.f114 [(.tmp 2,3,false),(.tmp 3,4,false)]:=fun _ _ _=>by kernel_rfl
def F114:zl6:=p114 F113 (Pf FUEL)
theorem zrh:LKP (Ya (Pf FUEL)) 0 28 6 Tryz.f114:=ST.lok (q114_6 F113 (Pf FUEL)) (Aa zp7 Ab) [] trivial
theorem ok114:OKP (en114 F114):=ST.ok1 (q114 F113 (Pf FUEL)) (Aa zp7 Ab) Tryz.func114 [6] ⟨⟨_,rfl,zrh⟩,trivial⟩
abbrev FT67:=(R:Type)→LI→(Bool→Option R)→Option R
def en67 (F:FT67):Ent:=eV 67 [(.sl (.int .u8))] [.bool] F
def p67 (F114:zl6):FT67:=fun R a0 k=>
(match bnd 0 a0.length with
|true=>let v1:=a0.getD 0 0;let v2:=IntKind.i64.wrap v1;F114 R v2 fun y3 y4=>
(match (!y4) with
|true=>k true
|false=>let v5:=(a0.length:Int);let v6:=decide (y3≤v5);k v6)
|false=>none)
theorem q67 (F114:zl6):EQ (en67 (p67 F114)) (sE 0 21 [] [en114 F114] []) Tryz.f67 [(.tmp 2,4,false)]:=fun _ _ _=>by kernel_rfl
def F67:FT67:=p67 F114
theorem ok67:OKP (en67 F67):=ST.ok0 (q67 F114) (Aa ok114 Ab) Tryz.func67
abbrev FT66:=(R:Type)→LI→(Tq13→LI→Option R)→Option R
def en66 (F:FT66):Ent:=eV 66 [(.sl (.int .u8))] [Kq13,(.sl (.int .u8))] F
abbrev zm9 (Z:Type):=LI→(List Tq9)→Int→Int→Tq13→Tq13→Z
abbrev zvy (R:Type):=(LI→Tq13→Tq13→Option R)→Option R
abbrev K7:=(R:Type)→zm9 (zvy R)
def W6 (L:K7):LEnt:=lM 10 [.val 0 (.sl (.int .u8)),.fix 2 (.ptr 0 [] Kq13),.fix 7 (.ptr 1 [] Kq13),.val 36 (.sl Kq9),.val 37 (.int .i64),.val 38 (.int .i64),.var 0 Kq13 false,.var 1 Kq13 false] 2 [(.exit 1,[.val 0 (.sl (.int .u8)),.fix 2 (.ptr 0 [] Kq13),.fix 7 (.ptr 1 [] Kq13),.var 0 Kq13 false,.var 1 Kq13 false])] L
def zua (R:Type):Env R:=⟨TT,EQT,0,10,Bo [],Bc [] R,fun _ _ _=>none,[],Bd [],[]⟩
theorem zr6 (R:Type):Az Tryz.prog (zua R):=⟨tabOK,eqOK,Aq Ab,Bs,Ak⟩
def zt8 (F205:Vu) (R:Type):Env R:=⟨TT,EQT,0,11,Bo [],Bc [zsl F205] R,fun _ _ _=>none,[],Bd [],[]⟩
theorem zr4 (R:Type):Az Tryz.prog (zt8 F205 R):=⟨tabOK,eqOK,Aq (Aa ok205 Ab),Bs,Ak⟩
def zt5 (F244:Na) (R:Type):Env R:=⟨TT,EQT,0,14,Bo [(0,2)],Bc [zid F244] R,fun _ _ _=>none,[],Bd [(207,xinl (zit R) (Ag Tryz.f207) [.tmp 2] 1),(208,xinl (zis R) (Ag Tryz.f208) [.tmp 2] 1)],[(FnV.fn 207),(FnV.fn 208)]⟩
theorem zr1 (R:Type):Az Tryz.prog (zt5 F244 R):=⟨tabOK,eqOK,Aq (Aa zpy Ab),Bs,(A3 (A9 (zca R) mixed Tryz.func207 (body:=Ag Tryz.f207) (by kernel_rfl) (by kernel_rfl) (by kernel_rfl) (res:=[.tmp 2]) (by kernel_rfl) (n:=1) (Nat.le_of_ble_eq_true rfl) (by kernel_rfl)) (A3 (A9 (zb9 R) mixed Tryz.func208 (body:=Ag Tryz.f208) (by kernel_rfl) (by kernel_rfl) (by kernel_rfl) (res:=[.tmp 2]) (by kernel_rfl) (n:=1) (Nat.le_of_ble_eq_true rfl) (by kernel_rfl)) Ak))⟩
def e66 (F67:FT67) (F113:Jf) (F205:Vu) (F244:Na) (L10:K7) (R:Type):Env R:=⟨TT,EQT,0,56,Bo [(12,6)],Bc [en67 F67,zil F113,zsl F205,zid F244] R,Bf [W6 L10] R,[],Bd [(201,xinl (zua R) (Ag Tryz.f201) [] 2),(204,xinl (zt8 F205 R) (Ag Tryz.f204) [] 2),(243,xinl (zt5 F244 R) (Ag Tryz.f243) [] 3)],[(FnV.fn 201),(FnV.fn 204),(FnV.clo 243 (FnV.fn 207)),(FnV.clo 243 (FnV.fn 208))]⟩
def zbk (F205:Vu) (F244:Na) (R:Type):zm9 (zm9 (Option R)→zvy R):=fun x1 x2 x3 x4 x5 x6 kc k0=>
let v7:=decide (x4<x3);(match v7 with
|true=>(match bnd x4 x2.length with
|true=>let v8:=x2.getD x4.toNat (0,FnV.nil,FnV.nil,());(match (decide (0≤(0:Int)∧(0:Int)≤v8.1∧v8.1≤v8.1∧v8.1≤(x1.length:Int))) with
|true=>let v9:=List.take (Int.toNat (v8.1 - 0)) (List.drop 0 x1);(match (FnV.same v8.2.2.1 (FnV.fn 201)) with
|true=>(match (decide ((32:Int)≤(v9.length:Int))) with
|true=>let v10:=List.take 32 v9;(match (decide (0≤v8.1∧v8.1≤(x1.length:Int)∧(x1.length:Int)≤(x1.length:Int)∧(x1.length:Int)≤(x1.length:Int))) with
|true=>let v11:=List.take (Int.toNat ((x1.length:Int) - v8.1)) (List.drop v8.1.toNat x1);let v12:=IntKind.i64.wrap (x4+1);kc v11 x2 x3 v12 x5 (x6.1,x6.2.1,x6.2.2.1,v10,x6.2.2.2.2)
|false=>none)
|false=>none)
|false=>(match (FnV.same v8.2.2.1 (FnV.fn 204)) with
|true=>(match (decide ((8:Int)≤(v9.length:Int))) with
|true=>let v13:=List.take 8 v9;F205 R v13 fun y14=>
(match (decide (0≤v8.1∧v8.1≤(x1.length:Int)∧(x1.length:Int)≤(x1.length:Int)∧(x1.length:Int)≤(x1.length:Int))) with
|true=>let v15:=List.take (Int.toNat ((x1.length:Int) - v8.1)) (List.drop v8.1.toNat x1);let v16:=IntKind.i64.wrap (x4+1);kc v15 x2 x3 v16 x5 (x6.1,x6.2.1,y14,x6.2.2.2.1,x6.2.2.2.2)
|false=>none)
|false=>none)
|false=>(match (FnV.same v8.2.2.1 (FnV.clo 243 (FnV.fn 207))) with
|true=>(match (decide ((4:Int)≤(v9.length:Int))) with
|true=>let v17:=List.take 4 v9;F244 R v17 fun y18=>
let v19:=IntKind.i64.wrap y18;(match (decide (0≤v8.1∧v8.1≤(x1.length:Int)∧(x1.length:Int)≤(x1.length:Int)∧(x1.length:Int)≤(x1.length:Int))) with
|true=>let v20:=List.take (Int.toNat ((x1.length:Int) - v8.1)) (List.drop v8.1.toNat x1);let v21:=IntKind.i64.wrap (x4+1);kc v20 x2 x3 v21 x5 (x6.1,v19,x6.2.2.1,x6.2.2.2.1,x6.2.2.2.2)
|false=>none)
|false=>none)
|false=>(match (FnV.same v8.2.2.1 (FnV.clo 243 (FnV.fn 208))) with
|true=>(match (decide ((4:Int)≤(v9.length:Int))) with
|true=>let v22:=List.take 4 v9;F244 R v22 fun y23=>
let v24:=IntKind.i64.wrap y23;(match (decide (0≤v8.1∧v8.1≤(x1.length:Int)∧(x1.length:Int)≤(x1.length:Int)∧(x1.length:Int)≤(x1.length:Int))) with
|true=>let v25:=List.take (Int.toNat ((x1.length:Int) - v8.1)) (List.drop v8.1.toNat x1);let v26:=IntKind.i64.wrap (x4+1);kc v25 x2 x3 v26 x5 (x6.1,x6.2.1,x6.2.2.1,x6.2.2.2.1,v24,x6.2.2.2.2.2)
|false=>none)
|false=>none)
|false=>none))))
|false=>none)
|false=>none)
|false=>k0 x1 x5 x6)
theorem q66_10 (F67:FT67) (F113:Jf) (F205:Vu) (F244:Na) (L10:K7):LEQ (W6 L10) (e66 F67 F113 F205 F244 L10) Tryz.f66 (zbk F205 F244):=fun _ _ _ _=>by kernel_rfl
def J4:Nat→K7
 | 0=>fun _ _ _ _ _ _ _ _=>none
 | n+1=>fun R x1 x2 x3 x4 x5 x6 k0=>zbk F205 F244 R x1 x2 x3 x4 x5 x6 (fun x1 x2 x3 x4 x5 x6=>J4 n R x1 x2 x3 x4 x5 x6 k0) k0
def p66 (F67:FT67) (F113:Jf) (L10:K7):FT66:=fun R a0 k=>
(match bnd 0 a0.length with
|true=>let v1:=a0.getD 0 0;let v2:=IntKind.i64.wrap v1;F113 R v2 fun y3 y4=>
(match (!y4) with
|true=>(match (decide (0≤(1:Int)∧(1:Int)≤(a0.length:Int)∧(a0.length:Int)≤(a0.length:Int)∧(a0.length:Int)≤(a0.length:Int))) with
|true=>let v5:=List.take (Int.toNat ((a0.length:Int) - (1:Int))) (List.drop 1 a0);k ((0:Int),(0:Int),(0:Int),(List.replicate 32 (0:Int)),v2,()) v5
|false=>none)
|false=>F67 R a0 fun y6=>
(match (!y6) with
|true=>k ((0:Int),(0:Int),(0:Int),(List.replicate 32 (0:Int)),v2,()) ([]:LI)
|false=>(match (decide (0≤(1:Int)∧(1:Int)≤(a0.length:Int)∧(a0.length:Int)≤(a0.length:Int)∧(a0.length:Int)≤(a0.length:Int))) with
|true=>let v7:=List.take (Int.toNat ((a0.length:Int) - (1:Int))) (List.drop 1 a0);let v8:=(y3.length:Int);L10 R v7 y3 v8 (0:Int) ((0:Int),(0:Int),(0:Int),(List.replicate 32 (0:Int)),(0:Int),()) (v2,(0:Int),(0:Int),(List.replicate 32 (0:Int)),(0:Int),()) (fun x9 x10 x11=>
k x11 x9)
|false=>none)))
|false=>none)
theorem q66 (F67:FT67) (F113:Jf) (F205:Vu) (F244:Na) (L10:K7):EQ (en66 (p66 F67 F113 L10)) (e66 F67 F113 F205 F244 L10) Tryz.f66 [(.cell 2 48,48,false),(.tmp 3,93,false)]:=fun _ _ _=>by kernel_rfl
def F66:FT66:=p66 F67 F113 (J4 FUEL)
theorem env66 (R:Type):Az Tryz.prog (e66 F67 F113 F205 F244 (J4 FUEL) R):=⟨tabOK,eqOK,Aq (Aa ok67 (Aa zp7 (Aa ok205 (Aa zpy Ab)))),Bs,(A3 (A9 (zr6 R) mixed Tryz.func201 (body:=Ag Tryz.f201) (by kernel_rfl) (by kernel_rfl) (by kernel_rfl) (res:=[]) (by kernel_rfl) (n:=2) (Nat.le_of_ble_eq_true rfl) (by kernel_rfl)) (A3 (A9 (zr4 R) mixed Tryz.func204 (body:=Ag Tryz.f204) (by kernel_rfl) (by kernel_rfl) (by kernel_rfl) (res:=[]) (by kernel_rfl) (n:=2) (Nat.le_of_ble_eq_true rfl) (by kernel_rfl)) (A3 (A9 (zr1 R) mixed Tryz.func243 (body:=Ag Tryz.f243) (by kernel_rfl) (by kernel_rfl) (by kernel_rfl) (res:=[]) (by kernel_rfl) (n:=3) (Nat.le_of_ble_eq_true rfl) (by kernel_rfl)) Ak)))⟩
theorem zqc:LKP (W6 (J4 FUEL)) 0 56 10 Tryz.f66:=ST.lok3 (q66_10 F67 F113 F205 F244 (J4 FUEL)) env66 (fun _=>rfl) (fun _=>rfl) (fun _=>rfl) [] trivial
theorem ok66:OKP (en66 F66):=ST.ok3 (q66 F67 F113 F205 F244 (J4 FUEL)) env66 Tryz.func66 (fun _=>rfl) (fun _=>rfl) (fun _=>rfl) [10] ⟨⟨_,rfl,zqc⟩,trivial⟩
abbrev FT32:=(R:Type)→Tq13→(Bool→Option R)→Option R
def en32 (F:FT32):Ent:=eV 32 [Kq13] [.bool] F
def p32 (F65:FT65) (F66:FT66) (F67:FT67):FT32:=fun R a0 k=>
let v1:=decide (a0.2.1<0);(match v1 with
|true=>k false
|false=>let v2:=decide (a0.2.1>4294967295);(match v2 with
|true=>k false
|false=>let v3:=decide (a0.2.2.2.2.1<0);(match v3 with
|true=>k false
|false=>let v4:=decide (a0.2.2.2.2.1>4294967295);(match v4 with
|true=>k false
|false=>F65 R a0 fun y5=>
F66 R y5 fun y6 y7=>
let v8:=Kd.eqv Kq13 y6 a0;(match v8 with
|true=>let v9:=(y7.length:Int);let v10:=v9==0;(match v10 with
|true=>F67 R y5 fun y11=>
k y11
|false=>k false)
|false=>k false)))))
theorem q32 (F65:FT65) (F66:FT66) (F67:FT67):EQ (en32 (p32 F65 F66 F67)) (sE 0 43 [] [en65 F65,en66 F66,en67 F67] []) Tryz.f32 [(.tmp 2,4,false)]:=fun _ _ _=>by kernel_rfl
def F32:FT32:=p32 F65 F66 F67
theorem ok32:OKP (en32 F32):=ST.ok0 (q32 F65 F66 F67) (Aa ok65 (Aa ok66 (Aa ok67 Ab))) Tryz.func32
abbrev FT13:=(R:Type)→Tq29→Tq13→(Tq29→Tq17→Option R)→Option R
def en13 (F:FT13):Ent:=eV 13 [Kq29,Kq13] [Kq29,Kq17] F
def e31i0 (R:Type):Env R:=⟨TT,EQT,0,3,Bo [],Bc [] R,fun _ _ _=>none,[],Bd [],[]⟩
theorem env31i0 (R:Type):Az Tryz.prog (e31i0 R):=⟨tabOK,eqOK,Aq Ab,Bs,Ak⟩
def e13 (F32:FT32) (F51:FT51) (F52:FT52) (F53:FT53) (F54:FT54) (F57:FT57) (F59:FT59) (F60:FT60) (F61:FT61) (F62:FT62) (F63:FT63) (F64:FT64) (R:Type):Env R:=⟨TT,EQT,0,46,Bo [(1,0)],Bc [en32 F32,en51 F51,en52 F52,en53 F53,en54 F54,en57 F57,en59 F59,en60 F60,en61 F61,en62 F62,en63 F63,en64 F64] R,Bf [] R,[],Bd [(31,xinl (e31i0 R) (Ag Tryz.f31) [.tmp 0] 0)],[(FnV.fn 51),(FnV.fn 52),(FnV.fn 53),(FnV.fn 54),(FnV.fn 57),(FnV.fn 59),(FnV.fn 60),(FnV.fn 61),(FnV.fn 62),(FnV.fn 63),(FnV.fn 64)]⟩
def p13 (F32:FT32) (F51:FT51) (F52:FT52) (F53:FT53) (F54:FT54) (F57:FT57) (F59:FT59) (F60:FT60) (F61:FT61) (F62:FT62) (F63:FT63) (F64:FT64):FT13:=fun R a0 a1 k=>
(match (Option.isNone (Bu (Kd.eqv (.int .i64)) ([]:List (Int×FnV)) (1:Int))) with
|true=>let v1:=([]:List (Int×FnV))++[((1:Int),(FnV.fn 51))];(match (Option.isNone (Bu (Kd.eqv (.int .i64)) v1 (2:Int))) with
|true=>let v2:=v1++[((2:Int),(FnV.fn 52))];(match (Option.isNone (Bu (Kd.eqv (.int .i64)) v2 (3:Int))) with
|true=>let v3:=v2++[((3:Int),(FnV.fn 53))];(match (Option.isNone (Bu (Kd.eqv (.int .i64)) v3 (4:Int))) with
|true=>let v4:=v3++[((4:Int),(FnV.fn 54))];(match (Option.isNone (Bu (Kd.eqv (.int .i64)) v4 (5:Int))) with
|true=>let v5:=v4++[((5:Int),(FnV.fn 57))];(match (Option.isNone (Bu (Kd.eqv (.int .i64)) v5 (6:Int))) with
|true=>let v6:=v5++[((6:Int),(FnV.fn 59))];(match (Option.isNone (Bu (Kd.eqv (.int .i64)) v6 (7:Int))) with
|true=>let v7:=v6++[((7:Int),(FnV.fn 60))];(match (Option.isNone (Bu (Kd.eqv (.int .i64)) v7 (8:Int))) with
|true=>let v8:=v7++[((8:Int),(FnV.fn 61))];(match (Option.isNone (Bu (Kd.eqv (.int .i64)) v8 (9:Int))) with
|true=>let v9:=v8++[((9:Int),(FnV.fn 62))];(match (Option.isNone (Bu (Kd.eqv (.int .i64)) v9 (10:Int))) with
|true=>let v10:=v9++[((10:Int),(FnV.fn 63))];(match (Option.isNone (Bu (Kd.eqv (.int .i64)) v10 (11:Int))) with
|true=>let v11:=v10++[((11:Int),(FnV.fn 64))];let v12:=Option.getD (Bu (Kd.eqv (.int .i64)) v11 a1.1) FnV.nil;let v13:=Option.isSome (Bu (Kd.eqv (.int .i64)) v11 a1.1);(match (!v13) with
|true=>k a0 ((2:Int),(0:Int),([]:LI),(List.replicate 32 (0:Int)),())
|false=>F32 R a1 fun y14=>
(match (!y14) with
|true=>k a0 ((2:Int),(0:Int),([]:LI),(List.replicate 32 (0:Int)),())
|false=>(match (FnV.same v12 (FnV.fn 51)) with
|true=>F51 R (a0,((0:Int),(0:Int),([]:LI),(List.replicate 32 (0:Int)),()),()) a1 fun y15 p16=>
let v17:=y15 !=0;(match v17 with
|true=>k a0 (y15,(0:Int),([]:LI),(List.replicate 32 (0:Int)),())
|false=>k p16.1 p16.2.1)
|false=>(match (FnV.same v12 (FnV.fn 52)) with
|true=>F52 R (a0,((0:Int),(0:Int),([]:LI),(List.replicate 32 (0:Int)),()),()) a1 fun y18 p19=>
let v20:=y18 !=0;(match v20 with
|true=>k a0 (y18,(0:Int),([]:LI),(List.replicate 32 (0:Int)),())
|false=>k p19.1 p19.2.1)
|false=>(match (FnV.same v12 (FnV.fn 53)) with
|true=>F53 R (a0,((0:Int),(0:Int),([]:LI),(List.replicate 32 (0:Int)),()),()) a1 fun y21 p22=>
let v23:=y21 !=0;(match v23 with
|true=>k a0 (y21,(0:Int),([]:LI),(List.replicate 32 (0:Int)),())
|false=>k p22.1 p22.2.1)
|false=>(match (FnV.same v12 (FnV.fn 54)) with
|true=>F54 R (a0,((0:Int),(0:Int),([]:LI),(List.replicate 32 (0:Int)),()),()) a1 fun y24 p25=>
let v26:=y24 !=0;(match v26 with
|true=>k a0 (y24,(0:Int),([]:LI),(List.replicate 32 (0:Int)),())
|false=>k p25.1 p25.2.1)
|false=>(match (FnV.same v12 (FnV.fn 57)) with
|true=>F57 R (a0,((0:Int),(0:Int),([]:LI),(List.replicate 32 (0:Int)),()),()) a1 fun y27 p28=>
let v29:=y27 !=0;(match v29 with
|true=>k a0 (y27,(0:Int),([]:LI),(List.replicate 32 (0:Int)),())
|false=>k p28.1 p28.2.1)
|false=>(match (FnV.same v12 (FnV.fn 59)) with
|true=>F59 R (a0,((0:Int),(0:Int),([]:LI),(List.replicate 32 (0:Int)),()),()) a1 fun y30 p31=>
let v32:=y30 !=0;(match v32 with
|true=>k a0 (y30,(0:Int),([]:LI),(List.replicate 32 (0:Int)),())
|false=>k p31.1 p31.2.1)
|false=>(match (FnV.same v12 (FnV.fn 60)) with
|true=>F60 R (a0,((0:Int),(0:Int),([]:LI),(List.replicate 32 (0:Int)),()),()) a1 fun y33 p34=>
let v35:=y33 !=0;(match v35 with
|true=>k a0 (y33,(0:Int),([]:LI),(List.replicate 32 (0:Int)),())
|false=>k p34.1 p34.2.1)
|false=>(match (FnV.same v12 (FnV.fn 61)) with
|true=>F61 R (a0,((0:Int),(0:Int),([]:LI),(List.replicate 32 (0:Int)),()),()) a1 fun y36 p37=>
let v38:=y36 !=0;(match v38 with
|true=>k a0 (y36,(0:Int),([]:LI),(List.replicate 32 (0:Int)),())
|false=>k p37.1 p37.2.1)
|false=>(match (FnV.same v12 (FnV.fn 62)) with
|true=>F62 R (a0,((0:Int),(0:Int),([]:LI),(List.replicate 32 (0:Int)),()),()) a1 fun y39 p40=>
let v41:=y39 !=0;(match v41 with
|true=>k a0 (y39,(0:Int),([]:LI),(List.replicate 32 (0:Int)),())
|false=>k p40.1 p40.2.1)
|false=>(match (FnV.same v12 (FnV.fn 63)) with
|true=>F63 R (a0,((0:Int),(0:Int),([]:LI),(List.replicate 32 (0:Int)),()),()) a1 fun y42 p43=>
let v44:=y42 !=0;(match v44 with
|true=>k a0 (y42,(0:Int),([]:LI),(List.replicate 32 (0:Int)),())
|false=>k p43.1 p43.2.1)
|false=>(match (FnV.same v12 (FnV.fn 64)) with
|true=>F64 R (a0,((0:Int),(0:Int),([]:LI),(List.replicate 32 (0:Int)),()),()) a1 fun y45 p46=>
let v47:=y45 !=0;(match v47 with
|true=>k a0 (y45,(0:Int),([]:LI),(List.replicate 32 (0:Int)),())
|false=>k p46.1 p46.2.1)
|false=>none)))))))))))))
|false=>none)
|false=>none)
|false=>none)
|false=>none)
|false=>none)
|false=>none)
|false=>none)
|false=>none)
|false=>none)
|false=>none)
|false=>none)
theorem q13 (F32:FT32) (F51:FT51) (F52:FT52) (F53:FT53) (F54:FT54) (F57:FT57) (F59:FT59) (F60:FT60) (F61:FT61) (F62:FT62) (F63:FT63) (F64:FT64):EQ (en13 (p13 F32 F51 F52 F53 F54 F57 F59 F60 F61 F62 F63 F64)) (e13 F32 F51 F52 F53 F54 F57 F59 F60 F61 F62 F63 F64) Tryz.f13 [(.cell 4 34,34,false),(.cell 5 44,44,false)]:=fun _ _ _=>by kernel_rfl
def F13:FT13:=p13 F32 F51 F52 F53 F54 F57 F59 F60 F61 F62 F63 F64
theorem env13 (R:Type):Az Tryz.prog (e13 F32 F51 F52 F53 F54 F57 F59 F60 F61 F62 F63 F64 R):=⟨tabOK,eqOK,Aq (Aa ok32 (Aa ok51 (Aa ok52 (Aa ok53 (Aa ok54 (Aa ok57 (Aa ok59 (Aa ok60 (Aa ok61 (Aa ok62 (Aa ok63 (Aa ok64 Ab)))))))))))),Bs,(A3 (A9 (env31i0 R) mixed Tryz.func31 (body:=Ag Tryz.f31) (by kernel_rfl) (by kernel_rfl) (by kernel_rfl) (res:=[.tmp 0]) (by kernel_rfl) (n:=0) (Nat.le_of_ble_eq_true rfl) (by kernel_rfl)) Ak)⟩
theorem ok13:OKP (en13 F13):=ST.ok3 (q13 F32 F51 F52 F53 F54 F57 F59 F60 F61 F62 F63 F64) env13 Tryz.func13 (fun _=>rfl) (fun _=>rfl) (fun _=>rfl) [] trivial
abbrev FT17:=(R:Type)→Tq29→(List Tq13)→(Tq29→(List Tq17)→Option R)→Option R
def en17 (F:FT17):Ent:=eV 17 [Kq29,(.sl Kq13)] [Kq29,(.sl Kq17)] F
abbrev D17_3 (Z:Type):=(List Tq13)→Int→Int→Tq29→Tq29→(List Tq17)→Z
abbrev E17_3 (R:Type):=(Tq29→Tq29→(List Tq17)→Option R)→Option R
abbrev Qq:=(R:Type)→D17_3 (E17_3 R)
def zhl (L:Qq):LEnt:=lM 3 [.fix 2 (.ptr 0 [] Kq29),.fix 4 (.ptr 1 [] Kq29),.fix 6 (.own 2 0),.val 11 (.sl Kq13),.val 12 (.int .i64),.val 13 (.int .i64),.var 0 Kq29 false,.var 1 Kq29 false,.row 2 Kq17 false] 3 [(.exit 0,[.fix 2 (.ptr 0 [] Kq29),.fix 4 (.ptr 1 [] Kq29),.fix 6 (.own 2 0),.var 0 Kq29 false,.var 1 Kq29 false,.row 2 Kq17 false])] L
def e17 (F13:FT13) (L3:Qq):=sE 0 31 [(1,0)] [en13 F13] [zhl L3]
def zyw (F13:FT13) (R:Type):D17_3 (D17_3 (Option R)→E17_3 R):=fun x1 x2 x3 x4 x5 x6 kc k0=>
let v7:=decide (x3<x2);(match v7 with
|true=>(match bnd x3 x1.length with
|true=>let v8:=x1.getD x3.toNat (0,0,0,(List.replicate 32 0),0,());F13 R x4 v8 fun y9 y10=>
let v11:=([y10]:(List Tq17));(match (decide (x6.length+v11.length≤1954687338268)) with
|true=>let v12:=x6++v11;let v13:=IntKind.i64.wrap (x3+1);kc x1 x2 v13 y9 x5 v12
|false=>none)
|false=>none)
|false=>k0 x4 x5 x6)
theorem q17_3 (F13:FT13) (L3:Qq):LEQ (zhl L3) (e17 F13 L3) Tryz.f17 (zyw F13):=fun _ _ _ _=>by kernel_rfl
def Za:Nat→Qq
 | 0=>fun _ _ _ _ _ _ _ _=>none
 | n+1=>fun R x1 x2 x3 x4 x5 x6 k0=>zyw F13 R x1 x2 x3 x4 x5 x6 (fun x1 x2 x3 x4 x5 x6=>Za n R x1 x2 x3 x4 x5 x6 k0) k0
def p17 (L3:Qq):FT17:=fun R a0 a1 k=>
let v1:=(a1.length:Int);L3 R a1 v1 (0:Int) a0 (((0:Int),(0:Int),(0:Int),(0:Int),(0:Int),()),(0:Int),([]:(List Tq5)),((0:Int),(List.replicate 32 (0:Int)),(List.replicate 32 (0:Int)),([]:(List Tq3)),()),([]:LI),([]:LI),()) ([]:(List Tq17)) (fun x2 x3 x4=>
k x2 x4)
theorem q17 (F13:FT13) (L3:Qq):EQ (en17 (p17 L3)) (e17 F13 L3) Tryz.f17 [(.cell 4 34,34,false),(.tmp 5,51,false)]:=fun _ _ _=>by kernel_rfl
def F17:FT17:=p17 (Za FUEL)
theorem zz7:LKP (zhl (Za FUEL)) 0 31 3 Tryz.f17:=ST.lok (q17_3 F13 (Za FUEL)) (Aa ok13 Ab) [] trivial
theorem ok17:OKP (en17 F17):=ST.ok1 (q17 F13 (Za FUEL)) (Aa ok13 Ab) Tryz.func17 [3] ⟨⟨_,rfl,zz7⟩,trivial⟩
abbrev FT24:=(R:Type)→LI→Int→LI→(LI→Option R)→Option R
def en24 (F:FT24):Ent:=eV 24 [(.arr 32 (.int .u8)),(.int .u64),(.arr 32 (.int .u8))] [(.arr 32 (.int .u8))] F
abbrev D24_4 (Z:Type):=Int→LI→LI→LI→LI→Z
abbrev E24_4 (R:Type):=(LI→LI→LI→Option R)→Option R
abbrev Qo:=(R:Type)→D24_4 (E24_4 R)
def zhj (L:Qo):LEnt:=lM 4 [.fix 5 (.ptr 1 [] (.arr 32 (.int .u8))),.fix 6 (.ptr 2 [] (.arr 32 (.int .u8))),.fix 7 (.own 3 0),.fix 8 (.ptr 4 [] (.arr 8 (.int .u8))),.val 9 (.int .i64),.var 1 (.arr 32 (.int .u8)) false,.var 2 (.arr 32 (.int .u8)) false,.row 3 (.int .u8) false,.var 4 (.arr 8 (.int .u8)) false] 5 [(.exit 0,[.fix 5 (.ptr 1 [] (.arr 32 (.int .u8))),.fix 6 (.ptr 2 [] (.arr 32 (.int .u8))),.fix 7 (.own 3 0),.var 1 (.arr 32 (.int .u8)) false,.var 2 (.arr 32 (.int .u8)) false,.row 3 (.int .u8) false])] L
def e24 (F45:FT45) (F46:FT46) (F47:FT47) (L4:Qo):=sE 0 29 [] [en45 F45,en46 F46,en47 F47] [zhj L4]
def zyu (R:Type):D24_4 (D24_4 (Option R)→E24_4 R):=fun x1 x2 x3 x4 x5 kc k0=>
let v6:=decide (x1<8);(match v6 with
|true=>(match (bnd x1 (8:Int)) with
|true=>let v7:=x5.getD x1.toNat 0;let v8:=([v7]:LI);(match (decide (x4.length+v8.length≤140737488355328)) with
|true=>let v9:=x4++v8;let v10:=IntKind.i64.wrap (x1+1);kc v10 x2 x3 v9 x5
|false=>none)
|false=>none)
|false=>k0 x2 x3 x4)
theorem q24_4 (F45:FT45) (F46:FT46) (F47:FT47) (L4:Qo):LEQ (zhj L4) (e24 F45 F46 F47 L4) Tryz.f24 zyu:=fun _ _ _ _=>by kernel_rfl
def Y6:Nat→Qo
 | 0=>fun _ _ _ _ _ _ _=>none
 | n+1=>fun R x1 x2 x3 x4 x5 k0=>zyu R x1 x2 x3 x4 x5 (fun x1 x2 x3 x4 x5=>Y6 n R x1 x2 x3 x4 x5 k0) k0
def p24 (F45:FT45) (F46:FT46) (F47:FT47) (L4:Qo):FT24:=fun R a0 a1 a2 k=>
F46 R a0 fun y1=>
F47 R a1 fun y2=>
L4 R (0:Int) a2 (List.replicate 32 (0:Int)) y1 y2 (fun x3 x4 x5=>
F46 R x3 fun y6=>
(match (decide (x5.length+y6.length≤140737488355328)) with
|true=>let v7:=x5++y6;F45 R v7 fun y8=>
k y8
|false=>none))
theorem q24 (F45:FT45) (F46:FT46) (F47:FT47) (L4:Qo):EQ (en24 (p24 F45 F46 F47 L4)) (e24 F45 F46 F47 L4) Tryz.f24 [(.cell 6 25,25,false)]:=fun _ _ _=>by kernel_rfl
def F24:FT24:=p24 F45 F46 F47 (Y6 FUEL)
theorem zz5:LKP (zhj (Y6 FUEL)) 0 29 4 Tryz.f24:=ST.lok (q24_4 F45 F46 F47 (Y6 FUEL)) (Aa ok45 (Aa ok46 (Aa ok47 Ab))) [] trivial
theorem ok24:OKP (en24 F24):=ST.ok1 (q24 F45 F46 F47 (Y6 FUEL)) (Aa ok45 (Aa ok46 (Aa ok47 Ab))) Tryz.func24 [4] ⟨⟨_,rfl,zz5⟩,trivial⟩
abbrev FT20:=(R:Type)→LI→LI→(Bool→Option R)→Option R
def en20 (F:FT20):Ent:=eV 20 [(.sl (.int .i64)),(.sl (.int .i64))] [.bool] F
abbrev D20_4 (Z:Type):=LI→LI→Int→Z
abbrev E20_4 (R:Type):=(Bool→Option R)→(Option R)→Option R
abbrev Qp:=(R:Type)→D20_4 (E20_4 R)
def zhk (L:Qp):LEnt:=lM 4 [.val 0 (.sl (.int .i64)),.val 1 (.sl (.int .i64)),.val 5 (.int .i64)] 0 [(.ret,[.val 4 .bool]),(.exit 0,[])] L
def e20 (L4:Qp):=sE 0 26 [] [] [zhk L4]
def zyv (R:Type):D20_4 (D20_4 (Option R)→E20_4 R):=fun x1 x2 x3 kc k0 k1=>
let v4:=(x1.length:Int);let v5:=decide (x3<v4);(match v5 with
|true=>(match bnd x3 x1.length with
|true=>let v6:=x1.getD x3.toNat 0;(match bnd x3 x2.length with
|true=>let v7:=x2.getD x3.toNat 0;let v8:=v6 !=v7;(match v8 with
|true=>k0 false
|false=>let v9:=IntKind.i64.wrap (x3+1);kc x1 x2 v9)
|false=>none)
|false=>none)
|false=>k1)
theorem q20_4 (L4:Qp):LEQ (zhk L4) (e20 L4) Tryz.f20 zyv:=fun _ _ _ _=>by kernel_rfl
def Y8:Nat→Qp
 | 0=>fun _ _ _ _ _ _=>none
 | n+1=>fun R x1 x2 x3 k0 k1=>zyv R x1 x2 x3 (fun x1 x2 x3=>Y8 n R x1 x2 x3 k0 k1) k0 k1
def p20 (L4:Qp):FT20:=fun R a0 a1 k=>
let v1:=(a0.length:Int);let v2:=(a1.length:Int);let v3:=v1 !=v2;(match v3 with
|true=>k false
|false=>L4 R a0 a1 (0:Int) (fun x4=>
k x4) (k true))
theorem q20 (L4:Qp):EQ (en20 (p20 L4)) (e20 L4) Tryz.f20 [(.tmp 4,4,false)]:=fun _ _ _=>by kernel_rfl
def F20:FT20:=p20 (Y8 FUEL)
theorem zz6:LKP (zhk (Y8 FUEL)) 0 26 4 Tryz.f20:=ST.lok (q20_4 (Y8 FUEL)) Ab [] trivial
theorem ok20:OKP (en20 F20):=ST.ok1 (q20 (Y8 FUEL)) Ab Tryz.func20 [4] ⟨⟨_,rfl,zz6⟩,trivial⟩
abbrev FT84:=(R:Type)→(List Tq5)→(List Tq5)→(Bool→Option R)→Option R
def en84 (F:FT84):Ent:=eV 84 [(.sl Kq5),(.sl Kq5)] [.bool] F
abbrev D84_4 (Z:Type):=(List Tq5)→(List Tq5)→Int→Int→Z
abbrev E84_4 (R:Type):=(Bool→Option R)→(Option R)→Option R
abbrev Qg:=(R:Type)→D84_4 (E84_4 R)
def zhb (L:Qg):LEnt:=lM 4 [.val 0 (.sl Kq5),.val 1 (.sl Kq5),.val 12 (.int .i64),.val 13 (.int .i64)] 0 [(.ret,[.val 4 .bool]),(.exit 0,[])] L
def e84 (L4:Qg):=sE 0 26 [] [] [zhb L4]
def zym (R:Type):D84_4 (D84_4 (Option R)→E84_4 R):=fun x1 x2 x3 x4 kc k0 k1=>
let v5:=decide (x4<x3);(match v5 with
|true=>(match bnd x4 x1.length with
|true=>let v6:=x1.getD x4.toNat ((List.replicate 32 0),0,0,());(match bnd x4 x2.length with
|true=>let v7:=x2.getD x4.toNat ((List.replicate 32 0),0,0,());let v8:= !(Kd.eqv Kq5 v6 v7);(match v8 with
|true=>k0 false
|false=>let v9:=IntKind.i64.wrap (x4+1);kc x1 x2 x3 v9)
|false=>none)
|false=>none)
|false=>k1)
theorem q84_4 (L4:Qg):LEQ (zhb L4) (e84 L4) Tryz.f84 zym:=fun _ _ _ _=>by kernel_rfl
def Yz:Nat→Qg
 | 0=>fun _ _ _ _ _ _ _=>none
 | n+1=>fun R x1 x2 x3 x4 k0 k1=>zym R x1 x2 x3 x4 (fun x1 x2 x3 x4=>Yz n R x1 x2 x3 x4 k0 k1) k0 k1
def p84 (L4:Qg):FT84:=fun R a0 a1 k=>
let v1:=(a0.length:Int);let v2:=(a1.length:Int);let v3:=v1 !=v2;(match v3 with
|true=>k false
|false=>let v4:=(a0.length:Int);L4 R a0 a1 v4 (0:Int) (fun x5=>
k x5) (k true))
theorem q84 (L4:Qg):EQ (en84 (p84 L4)) (e84 L4) Tryz.f84 [(.tmp 4,4,false)]:=fun _ _ _=>by kernel_rfl
def F84:FT84:=p84 (Yz FUEL)
theorem zzx:LKP (zhb (Yz FUEL)) 0 26 4 Tryz.f84:=ST.lok (q84_4 (Yz FUEL)) Ab [] trivial
theorem ok84:OKP (en84 F84):=ST.ok1 (q84 (Yz FUEL)) Ab Tryz.func84 [4] ⟨⟨_,rfl,zzx⟩,trivial⟩
abbrev FT39:=(R:Type)→(List Tq5)→(List Tq5)→(Bool→Option R)→Option R
def en39 (F:FT39):Ent:=eV 39 [(.sl Kq5),(.sl Kq5)] [.bool] F
def p39 (F84:FT84):FT39:=fun R a0 a1 k=>
F84 R a0 a1 fun y1=>
k y1
theorem q39 (F84:FT84):EQ (en39 (p39 F84)) (sE 0 8 [] [en84 F84] []) Tryz.f39 [(.tmp 4,4,false)]:=fun _ _ _=>by kernel_rfl
def F39:FT39:=p39 F84
theorem ok39:OKP (en39 F39):=ST.ok0 (q39 F84) (Aa ok84 Ab) Tryz.func39
abbrev zl2:=(R:Type)→(List Tq3)→(List Tq3)→(Bool→Option R)→Option R
def en127 (F:zl2):Ent:=eV 127 [(.sl Kq3),(.sl Kq3)] [.bool] F
abbrev zoq (Z:Type):=(List Tq3)→(List Tq3)→Int→Int→Z
abbrev zxf (R:Type):=(Bool→Option R)→(Option R)→Option R
abbrev Ly:=(R:Type)→zoq (zxf R)
def X9 (L:Ly):LEnt:=lM 4 [.val 0 (.sl Kq3),.val 1 (.sl Kq3),.val 12 (.int .i64),.val 13 (.int .i64)] 0 [(.ret,[.val 4 .bool]),(.exit 0,[])] L
def e127 (L4:Ly):=sE 0 26 [] [] [X9 L4]
def zgm (R:Type):zoq (zoq (Option R)→zxf R):=fun x1 x2 x3 x4 kc k0 k1=>
let v5:=decide (x4<x3);(match v5 with
|true=>(match bnd x4 x1.length with
|true=>let v6:=x1.getD x4.toNat (0,(List.replicate 32 0),false,(List.replicate 32 0),());(match bnd x4 x2.length with
|true=>let v7:=x2.getD x4.toNat (0,(List.replicate 32 0),false,(List.replicate 32 0),());let v8:= !(Kd.eqv Kq3 v6 v7);(match v8 with
|true=>k0 false
|false=>let v9:=IntKind.i64.wrap (x4+1);kc x1 x2 x3 v9)
|false=>none)
|false=>none)
|false=>k1)
theorem q127_4 (L4:Ly):LEQ (X9 L4) (e127 L4) Tryz.f127 zgm:=fun _ _ _ _=>by kernel_rfl
def Pe:Nat→Ly
 | 0=>fun _ _ _ _ _ _ _=>none
 | n+1=>fun R x1 x2 x3 x4 k0 k1=>zgm R x1 x2 x3 x4 (fun x1 x2 x3 x4=>Pe n R x1 x2 x3 x4 k0 k1) k0 k1
def p127 (L4:Ly):zl2:=fun R a0 a1 k=>
let v1:=(a0.length:Int);let v2:=(a1.length:Int);let v3:=v1 !=v2;(match v3 with
|true=>k false
|false=>let v4:=(a0.length:Int);L4 R a0 a1 v4 (0:Int) (fun x5=>
k x5) (k true))
theorem q127 (L4:Ly):EQ (en127 (p127 L4)) (e127 L4) Tryz.f127 [(.tmp 4,4,false)]:=fun _ _ _=>by kernel_rfl
def F127:zl2:=p127 (Pe FUEL)
theorem zrg:LKP (X9 (Pe FUEL)) 0 26 4 Tryz.f127:=ST.lok (q127_4 (Pe FUEL)) Ab [] trivial
theorem ok127:OKP (en127 F127):=ST.ok1 (q127 (Pe FUEL)) Ab Tryz.func127 [4] ⟨⟨_,rfl,zrg⟩,trivial⟩
abbrev FT85:=(R:Type)→(List Tq3)→(List Tq3)→(Bool→Option R)→Option R
def en85 (F:FT85):Ent:=eV 85 [(.sl Kq3),(.sl Kq3)] [.bool] F
def p85 (F127:zl2):FT85:=fun R a0 a1 k=>
F127 R a0 a1 fun y1=>
k y1
theorem q85 (F127:zl2):EQ (en85 (p85 F127)) (sE 0 8 [] [en127 F127] []) Tryz.f85 [(.tmp 4,4,false)]:=fun _ _ _=>by kernel_rfl
def F85:FT85:=p85 F127
theorem ok85:OKP (en85 F85):=ST.ok0 (q85 F127) (Aa ok127 Ab) Tryz.func85
abbrev FT40:=(R:Type)→Tq24→Tq24→(Bool→Option R)→Option R
def en40 (F:FT40):Ent:=eV 40 [Kq24,Kq24] [.bool] F
def p40 (F85:FT85):FT40:=fun R a0 a1 k=>
let v1:=a0.1==a1.1;(match v1 with
|true=>let v2:=Kd.eqv (.arr 32 (.int .u8)) a0.2.1 a1.2.1;(match v2 with
|true=>let v3:=Kd.eqv (.arr 32 (.int .u8)) a0.2.2.1 a1.2.2.1;(match v3 with
|true=>F85 R a0.2.2.2.1 a1.2.2.2.1 fun y4=>
k y4
|false=>k false)
|false=>k false)
|false=>k false)
theorem q40 (F85:FT85):EQ (en40 (p40 F85)) (sE 0 31 [] [en85 F85] []) Tryz.f40 [(.tmp 4,4,false)]:=fun _ _ _=>by kernel_rfl
def F40:FT40:=p40 F85
theorem ok40:OKP (en40 F40):=ST.ok0 (q40 F85) (Aa ok85 Ab) Tryz.func40
abbrev FT41:=(R:Type)→LI→LI→(Bool→Option R)→Option R
def en41 (F:FT41):Ent:=eV 41 [(.sl (.int .i64)),(.sl (.int .i64))] [.bool] F
abbrev D41_4 (Z:Type):=LI→LI→Int→Int→Z
abbrev E41_4 (R:Type):=(Bool→Option R)→(Option R)→Option R
abbrev Ql:=(R:Type)→D41_4 (E41_4 R)
def zhg (L:Ql):LEnt:=lM 4 [.val 0 (.sl (.int .i64)),.val 1 (.sl (.int .i64)),.val 12 (.int .i64),.val 13 (.int .i64)] 0 [(.ret,[.val 4 .bool]),(.exit 0,[])] L
def e41 (L4:Ql):=sE 0 26 [] [] [zhg L4]
def zyq (R:Type):D41_4 (D41_4 (Option R)→E41_4 R):=fun x1 x2 x3 x4 kc k0 k1=>
let v5:=decide (x4<x3);(match v5 with
|true=>(match bnd x4 x1.length with
|true=>let v6:=x1.getD x4.toNat 0;(match bnd x4 x2.length with
|true=>let v7:=x2.getD x4.toNat 0;let v8:=v6 !=v7;(match v8 with
|true=>k0 false
|false=>let v9:=IntKind.i64.wrap (x4+1);kc x1 x2 x3 v9)
|false=>none)
|false=>none)
|false=>k1)
theorem q41_4 (L4:Ql):LEQ (zhg L4) (e41 L4) Tryz.f41 zyq:=fun _ _ _ _=>by kernel_rfl
def Y2:Nat→Ql
 | 0=>fun _ _ _ _ _ _ _=>none
 | n+1=>fun R x1 x2 x3 x4 k0 k1=>zyq R x1 x2 x3 x4 (fun x1 x2 x3 x4=>Y2 n R x1 x2 x3 x4 k0 k1) k0 k1
def p41 (L4:Ql):FT41:=fun R a0 a1 k=>
let v1:=(a0.length:Int);let v2:=(a1.length:Int);let v3:=v1 !=v2;(match v3 with
|true=>k false
|false=>let v4:=(a0.length:Int);L4 R a0 a1 v4 (0:Int) (fun x5=>
k x5) (k true))
theorem q41 (L4:Ql):EQ (en41 (p41 L4)) (e41 L4) Tryz.f41 [(.tmp 4,4,false)]:=fun _ _ _=>by kernel_rfl
def F41:FT41:=p41 (Y2 FUEL)
theorem zz2:LKP (zhg (Y2 FUEL)) 0 26 4 Tryz.f41:=ST.lok (q41_4 (Y2 FUEL)) Ab [] trivial
theorem ok41:OKP (en41 F41):=ST.ok1 (q41 (Y2 FUEL)) Ab Tryz.func41 [4] ⟨⟨_,rfl,zz2⟩,trivial⟩
abbrev FT16:=(R:Type)→Tq29→Tq29→(Bool→Option R)→Option R
def en16 (F:FT16):Ent:=eV 16 [Kq29,Kq29] [.bool] F
def p16 (F39:FT39) (F40:FT40) (F41:FT41):FT16:=fun R a0 a1 k=>
let v1:=Kd.eqv Kq21 a0.1 a1.1;(match v1 with
|true=>let v2:=a0.2.1==a1.2.1;(match v2 with
|true=>F39 R a0.2.2.1 a1.2.2.1 fun y3=>
(match y3 with
|true=>F40 R a0.2.2.2.1 a1.2.2.2.1 fun y4=>
(match y4 with
|true=>F41 R a0.2.2.2.2.1 a1.2.2.2.2.1 fun y5=>
(match y5 with
|true=>F41 R a0.2.2.2.2.2.1 a1.2.2.2.2.2.1 fun y6=>
k y6
|false=>k false)
|false=>k false)
|false=>k false)
|false=>k false)
|false=>k false)
theorem q16 (F39:FT39) (F40:FT40) (F41:FT41):EQ (en16 (p16 F39 F40 F41)) (sE 0 45 [] [en39 F39,en40 F40,en41 F41] []) Tryz.f16 [(.tmp 4,4,false)]:=fun _ _ _=>by kernel_rfl
def F16:FT16:=p16 F39 F40 F41
theorem ok16:OKP (en16 F16):=ST.ok0 (q16 F39 F40 F41) (Aa ok39 (Aa ok40 (Aa ok41 Ab))) Tryz.func16
abbrev FT8:=(R:Type)→(Bool→Option R)→Option R
def en8 (F:FT8):Ent:=eV 8 [] [.bool] F
abbrev D8_10 (Z:Type):=(List Tq17)→LI→Int→Tq29→LI→Z
abbrev E8_10 (R:Type):=(Bool→Option R)→((List Tq17)→Tq29→LI→Option R)→Option R
abbrev Qf:=(R:Type)→D8_10 (E8_10 R)
def zha (L:Qf):LEnt:=lM 10 [.fix 1 (.ptr 0 [] Kq29),.fix 5 (.ptr 2 [] (.arr 32 (.int .u8))),.val 7 (.sl Kq17),.val 8 (.sl (.int .i64)),.val 9 (.int .i64),.var 0 Kq29 false,.var 2 (.arr 32 (.int .u8)) false] 3 [(.ret,[.val 0 .bool]),(.exit 0,[.fix 1 (.ptr 0 [] Kq29),.fix 5 (.ptr 2 [] (.arr 32 (.int .u8))),.val 7 (.sl Kq17),.var 0 Kq29 false,.var 2 (.arr 32 (.int .u8)) false])] L
def e8 (F9:FT9) (F16:FT16) (F17:FT17) (F20:FT20) (F23:FT23) (F24:FT24) (L10:Qf):=sE 0 136 [] [en9 F9,en16 F16,en17 F17,en20 F20,en23 F23,en24 F24] [zha L10]
def p8_10 (R:Type):D8_10 (D8_10 (Option R)→E8_10 R):=fun x1 x2 x3 x4 x5 kc k0 k1=>
let v6:=(x2.length:Int);let v7:=decide (x3<v6);(match v7 with
|true=>(match bnd x3 x1.length with
|true=>let v8:=(x1.getD x3.toNat (0,0,[],(List.replicate 32 0),())).1;(match bnd x3 x2.length with
|true=>let v9:=x2.getD x3.toNat 0;let v10:=v8 !=v9;(match v10 with
|true=>k0 false
|false=>let v11:=IntKind.i64.wrap (x3+1);kc x1 x2 v11 x4 x5)
|false=>none)
|false=>none)
|false=>k1 x1 x4 x5)
theorem q8_10 (F9:FT9) (F16:FT16) (F17:FT17) (F20:FT20) (F23:FT23) (F24:FT24) (L10:Qf):LEQ (zha L10) (e8 F9 F16 F17 F20 F23 F24 L10) Tryz.f8 p8_10:=fun _ _ _ _=>by kernel_rfl
def Yy:Nat→Qf
 | 0=>fun _ _ _ _ _ _ _ _=>none
 | n+1=>fun R x1 x2 x3 x4 x5 k0 k1=>p8_10 R x1 x2 x3 x4 x5 (fun x1 x2 x3 x4 x5=>Yy n R x1 x2 x3 x4 x5 k0 k1) k0 k1
def p8 (F9:FT9) (F16:FT16) (F17:FT17) (F20:FT20) (F23:FT23) (F24:FT24) (L10:Qf):FT8:=fun R k=>
let v1:=List.replicate 32 (0:Int);F9 R ((2:Int),(1:Int),(1:Int),(64:Int),(1:Int),()) v1 fun y2 y3=>
let v4:=List.replicate 32 (0:Int);F9 R ((0:Int),(0:Int),(0:Int),(0:Int),(0:Int),()) v4 fun y5 y6=>
let v7:=List.set (List.replicate 32 (0:Int)) 0 (7:Int);F23 R v7 fun y8=>
let v9:=([((1:Int),(0:Int),(5:Int),v7,(0:Int),()),((4:Int),(0:Int),(0:Int),y8,(0:Int),()),((5:Int),(0:Int),(0:Int),v7,(0:Int),()),((7:Int),(0:Int),(0:Int),(List.replicate 32 (0:Int)),(0:Int),()),((6:Int),(0:Int),(0:Int),(List.replicate 32 (0:Int)),(0:Int),()),((5:Int),(0:Int),(0:Int),v7,(0:Int),()),((6:Int),(0:Int),(0:Int),(List.replicate 32 (0:Int)),(0:Int),()),((7:Int),(0:Int),(0:Int),(List.replicate 32 (0:Int)),(1:Int),()),((10:Int),(0:Int),(0:Int),(List.replicate 32 (0:Int)),(0:Int),()),((0:Int),(0:Int),(0:Int),(List.replicate 32 (0:Int)),(99:Int),()),((7:Int),(0:Int),(0:Int),(List.replicate 32 (0:Int)),(2:Int),())]:(List Tq13));F17 R y2 v9 fun y10 y11=>
let v12:=y3 !=0;(match v12 with
|true=>k false
|false=>let v13:=y6 !=1;(match v13 with
|true=>k false
|false=>let v14:=(y11.length:Int);let v15:=(v9.length:Int);let v16:=v14 !=v15;(match v16 with
|true=>k false
|false=>let v17:=([(0:Int),(0:Int),(7:Int),(10:Int),(0:Int),(0:Int),(0:Int),(0:Int),(0:Int),(2:Int),(3:Int)]:LI);L10 R y11 v17 (0:Int) y10 v7 (fun x18=>
k x18) (fun x19 x20 x21=>
(match bnd 4 x19.length with
|true=>let v22:=(x19.getD 4 (0,0,[],(List.replicate 32 0),())).2.1;let v23:=v22==1;(match v23 with
|true=>(match bnd 6 x19.length with
|true=>let v24:=(x19.getD 6 (0,0,[],(List.replicate 32 0),())).2.1;let v25:=v24==0;(match v25 with
|true=>(match bnd 6 x19.length with
|true=>let v26:=(x19.getD 6 (0,0,[],(List.replicate 32 0),())).2.2.2.1;let v27:=List.replicate 32 (0:Int);F24 R v27 (0:Int) x21 fun y28=>
let v29:=Kd.eqv (.arr 32 (.int .u8)) v26 y28;(match v29 with
|true=>(match bnd 7 x19.length with
|true=>let v30:=(x19.getD 7 (0,0,[],(List.replicate 32 0),())).2.2.1;let v31:=([(0:Int)]:LI);F20 R v30 v31 fun y32=>
(match y32 with
|true=>(match bnd 8 x19.length with
|true=>let v33:=(x19.getD 8 (0,0,[],(List.replicate 32 0),())).2.1;let v34:=v33==5;(match v34 with
|true=>let v35:=x20.2.2.2.1.1==1;(match v35 with
|true=>let v36:=(x20.2.2.2.2.2.1.length:Int);let v37:=v36==0;(match v37 with
|true=>F16 R x20 x20 fun y38=>
(match y38 with
|true=>F16 R x20 (((0:Int),(0:Int),(0:Int),(0:Int),(0:Int),()),(0:Int),([]:(List Tq5)),((0:Int),(List.replicate 32 (0:Int)),(List.replicate 32 (0:Int)),([]:(List Tq3)),()),([]:LI),([]:LI),()) fun y39=>
k (!y39)
|false=>k false)
|false=>k false)
|false=>k false)
|false=>k false)
|false=>none)
|false=>k false)
|false=>none)
|false=>k false)
|false=>none)
|false=>k false)
|false=>none)
|false=>k false)
|false=>none)))))
theorem q8 (F9:FT9) (F16:FT16) (F17:FT17) (F20:FT20) (F23:FT23) (F24:FT24) (L10:Qf):EQ (en8 (p8 F9 F16 F17 F20 F23 F24 L10)) (e8 F9 F16 F17 F20 F23 F24 L10) Tryz.f8 [(.tmp 0,4,false)]:=fun _ _ _=>by kernel_rfl
def F8:FT8:=p8 F9 F16 F17 F20 F23 F24 (Yy FUEL)
theorem zzw:LKP (zha (Yy FUEL)) 0 136 10 Tryz.f8:=ST.lok (q8_10 F9 F16 F17 F20 F23 F24 (Yy FUEL)) (Aa ok9 (Aa ok16 (Aa ok17 (Aa ok20 (Aa ok23 (Aa ok24 Ab)))))) [] trivial
theorem ok8:OKP (en8 F8):=ST.ok1 (q8 F9 F16 F17 F20 F23 F24 (Yy FUEL)) (Aa ok9 (Aa ok16 (Aa ok17 (Aa ok20 (Aa ok23 (Aa ok24 Ab)))))) Tryz.func8 [10] ⟨⟨_,rfl,zzw⟩,trivial⟩
abbrev FT28:=(R:Type)→Tq21→(Bool→Option R)→Option R
def en28 (F:FT28):Ent:=eV 28 [Kq21] [.bool] F
def p28:FT28:=fun R a0 k=>
let v1:=decide (a0.1≥1);(match v1 with
|true=>let v2:=decide (a0.1≤1024);(match v2 with
|true=>let v3:=decide (a0.2.1≥0);(match v3 with
|true=>let v4:=decide (a0.2.1≤a0.1);(match v4 with
|true=>let v5:=decide (a0.2.2.1≥0);(match v5 with
|true=>let v6:=IntKind.i64.wrap (a0.1 - a0.2.1);let v7:=decide (a0.2.2.1≤v6);(match v7 with
|true=>let v8:=decide (a0.2.2.2.1≥1);(match v8 with
|true=>let v9:=decide (a0.2.2.2.1≤64);(match v9 with
|true=>let v10:=decide (a0.2.2.2.2.1≥1);(match v10 with
|true=>let v11:=decide (a0.2.2.2.2.1≤1048576);k v11
|false=>k false)
|false=>k false)
|false=>k false)
|false=>k false)
|false=>k false)
|false=>k false)
|false=>k false)
|false=>k false)
|false=>k false)
theorem q28:EQ (en28 p28) (sE 0 58 [] [] []) Tryz.f28 [(.tmp 2,4,false)]:=fun _ _ _=>by kernel_rfl
def F28:FT28:=p28
theorem ok28:OKP (en28 F28):=ST.ok0 q28 Ab Tryz.func28
abbrev FT10:=(R:Type)→Tq21→LI→(Tq29→Int→Option R)→Option R
def en10 (F:FT10):Ent:=eV 10 [Kq21,(.arr 32 (.int .u8))] [Kq29,(.int .i64)] F
abbrev D10_5 (Z:Type):=Int→Tq21→Tq29→(List Tq5)→LI→LI→Tq52→Z
abbrev E10_5 (R:Type):=(Tq29→(List Tq5)→LI→LI→Tq52→Option R)→Option R
abbrev Qr:=(R:Type)→D10_5 (E10_5 R)
def zhm (L:Qr):LEnt:=lM 5 [.fix 2 (.ptr 0 [] Kq21),.fix 4 (.ptr 2 [] Kq29),.fix 6 (.mptr 11 0 Kq29),.val 7 (.int .i64),.var 0 Kq21 false,.var 2 Kq29 false,.row 3 Kq5 false,.row 5 (.int .i64) false,.row 6 (.int .i64) false,.mix 11 [((.int .i64),none),((.int .i64),none),((.int .i64),none),((.int .i64),none),((.int .i64),none),((.int .i64),none),((.sl Kq5),some 3),((.int .u64),none),((.arr 32 (.int .u8)),none),((.arr 32 (.int .u8)),none),((.sl Kq3),none),((.sl (.int .i64)),some 5),((.sl (.int .i64)),some 6)]] 12 [(.exit 0,[.fix 4 (.ptr 2 [] Kq29),.fix 6 (.mptr 11 0 Kq29),.var 2 Kq29 false,.row 3 Kq5 false,.row 5 (.int .i64) false,.row 6 (.int .i64) false,.mix 11 [((.int .i64),none),((.int .i64),none),((.int .i64),none),((.int .i64),none),((.int .i64),none),((.int .i64),none),((.sl Kq5),some 3),((.int .u64),none),((.arr 32 (.int .u8)),none),((.arr 32 (.int .u8)),none),((.sl Kq3),none),((.sl (.int .i64)),some 5),((.sl (.int .i64)),some 6)]])] L
def e10 (F28:FT28) (L5:Qr):=sE 0 28 [(3,3),(3,4)] [en28 F28] [zhm L5]
def zyz (R:Type):D10_5 (D10_5 (Option R)→E10_5 R):=fun x1 x2 x3 x4 x5 x6 x7 kc k0=>
let v8:=decide (x1<x2.1);(match v8 with
|true=>let v9:=([(-1:Int)]:LI);(match (decide (x5.length+v9.length≤17592186044416)) with
|true=>let v10:=x5++v9;let v11:=IntKind.i64.wrap (x1+1);kc v11 x2 x3 x4 v10 x6 (x7.1,x7.2.1,x7.2.2.1,x7.2.2.2.1,x7.2.2.2.2.1,x7.2.2.2.2.2.1,x7.2.2.2.2.2.2.1,x7.2.2.2.2.2.2.2.1,x7.2.2.2.2.2.2.2.2.1,x7.2.2.2.2.2.2.2.2.2.1,())
|false=>none)
|false=>k0 x3 x4 x5 x6 (x7.1,x7.2.1,x7.2.2.1,x7.2.2.2.1,x7.2.2.2.2.1,x7.2.2.2.2.2.1,x7.2.2.2.2.2.2.1,x7.2.2.2.2.2.2.2.1,x7.2.2.2.2.2.2.2.2.1,x7.2.2.2.2.2.2.2.2.2.1,()))
theorem q10_5 (F28:FT28) (L5:Qr):LEQ (zhm L5) (e10 F28 L5) Tryz.f10 zyz:=fun _ _ _ _=>by kernel_rfl
def Zd:Nat→Qr
 | 0=>fun _ _ _ _ _ _ _ _ _=>none
 | n+1=>fun R x1 x2 x3 x4 x5 x6 x7 k0=>zyz R x1 x2 x3 x4 x5 x6 x7 (fun x1 x2 x3 x4 x5 x6 x7=>Zd n R x1 x2 x3 x4 x5 x6 x7 k0) k0
def p10 (F28:FT28) (L5:Qr):FT10:=fun R a0 a1 k=>
F28 R a0 fun y1=>
(match (!y1) with
|true=>k (((0:Int),(0:Int),(0:Int),(0:Int),(0:Int),()),(0:Int),([]:(List Tq5)),((0:Int),(List.replicate 32 (0:Int)),(List.replicate 32 (0:Int)),([]:(List Tq3)),()),([]:LI),([]:LI),()) (1:Int)
|false=>L5 R (0:Int) a0 (((0:Int),(0:Int),(0:Int),(0:Int),(0:Int),()),(0:Int),([]:(List Tq5)),((0:Int),(List.replicate 32 (0:Int)),(List.replicate 32 (0:Int)),([]:(List Tq3)),()),([]:LI),([]:LI),()) ([]:(List Tq5)) ([]:LI) ([]:LI) (a0.1,a0.2.1,a0.2.2.1,a0.2.2.2.1,a0.2.2.2.2.1,(0:Int),(0:Int),a1,(List.replicate 32 (0:Int)),([]:(List Tq3)),()) (fun x2 x3 x4 x5 x6=>
k ((x6.1,x6.2.1,x6.2.2.1,x6.2.2.2.1,x6.2.2.2.2.1,()),x6.2.2.2.2.2.1,x3,(x6.2.2.2.2.2.2.1,x6.2.2.2.2.2.2.2.1,x6.2.2.2.2.2.2.2.2.1,x6.2.2.2.2.2.2.2.2.2.1,()),x4,x5,()) (0:Int)))
theorem q10 (F28:FT28) (L5:Qr):EQ (en10 (p10 F28 L5)) (e10 F28 L5) Tryz.f10 [(.cell 4 34,34,false),(.tmp 5,35,false)]:=fun _ _ _=>by kernel_rfl
def F10:FT10:=p10 F28 (Zd FUEL)
theorem zz8:LKP (zhm (Zd FUEL)) 0 28 5 Tryz.f10:=ST.lok (q10_5 F28 (Zd FUEL)) (Aa ok28 Ab) [] trivial
theorem ok10:OKP (en10 F10):=ST.ok1 (q10 F28 (Zd FUEL)) (Aa ok28 Ab) Tryz.func10 [5] ⟨⟨_,rfl,zz8⟩,trivial⟩
abbrev FT29:=(R:Type)→(List Tq5)→(List Tq5)→(Bool→Option R)→Option R
def en29 (F:FT29):Ent:=eV 29 [(.sl Kq5),(.sl Kq5)] [.bool] F
abbrev D29_4 (Z:Type):=(List Tq5)→(List Tq5)→Int→Z
abbrev E29_4 (R:Type):=(Bool→Option R)→(Option R)→Option R
abbrev Qm:=(R:Type)→D29_4 (E29_4 R)
def zhh (L:Qm):LEnt:=lM 4 [.val 0 (.sl Kq5),.val 1 (.sl Kq5),.val 5 (.int .i64)] 0 [(.ret,[.val 4 .bool]),(.exit 0,[])] L
def e29 (L4:Qm):=sE 0 26 [] [] [zhh L4]
def zyr (R:Type):D29_4 (D29_4 (Option R)→E29_4 R):=fun x1 x2 x3 kc k0 k1=>
let v4:=(x1.length:Int);let v5:=decide (x3<v4);(match v5 with
|true=>(match bnd x3 x1.length with
|true=>let v6:=x1.getD x3.toNat ((List.replicate 32 0),0,0,());(match bnd x3 x2.length with
|true=>let v7:=x2.getD x3.toNat ((List.replicate 32 0),0,0,());let v8:= !(Kd.eqv Kq5 v6 v7);(match v8 with
|true=>k0 false
|false=>let v9:=IntKind.i64.wrap (x3+1);kc x1 x2 v9)
|false=>none)
|false=>none)
|false=>k1)
theorem q29_4 (L4:Qm):LEQ (zhh L4) (e29 L4) Tryz.f29 zyr:=fun _ _ _ _=>by kernel_rfl
def Y3:Nat→Qm
 | 0=>fun _ _ _ _ _ _=>none
 | n+1=>fun R x1 x2 x3 k0 k1=>zyr R x1 x2 x3 (fun x1 x2 x3=>Y3 n R x1 x2 x3 k0 k1) k0 k1
def p29 (L4:Qm):FT29:=fun R a0 a1 k=>
let v1:=(a0.length:Int);let v2:=(a1.length:Int);let v3:=v1 !=v2;(match v3 with
|true=>k false
|false=>L4 R a0 a1 (0:Int) (fun x4=>
k x4) (k true))
theorem q29 (L4:Qm):EQ (en29 (p29 L4)) (e29 L4) Tryz.f29 [(.tmp 4,4,false)]:=fun _ _ _=>by kernel_rfl
def F29:FT29:=p29 (Y3 FUEL)
theorem zz3:LKP (zhh (Y3 FUEL)) 0 26 4 Tryz.f29:=ST.lok (q29_4 (Y3 FUEL)) Ab [] trivial
theorem ok29:OKP (en29 F29):=ST.ok1 (q29 (Y3 FUEL)) Ab Tryz.func29 [4] ⟨⟨_,rfl,zz3⟩,trivial⟩
abbrev FT50:=(R:Type)→(List Tq3)→(List Tq3)→(Bool→Option R)→Option R
def en50 (F:FT50):Ent:=eV 50 [(.sl Kq3),(.sl Kq3)] [.bool] F
abbrev D50_4 (Z:Type):=(List Tq3)→(List Tq3)→Int→Z
abbrev E50_4 (R:Type):=(Bool→Option R)→(Option R)→Option R
abbrev Qi:=(R:Type)→D50_4 (E50_4 R)
def zhd (L:Qi):LEnt:=lM 4 [.val 0 (.sl Kq3),.val 1 (.sl Kq3),.val 5 (.int .i64)] 0 [(.ret,[.val 4 .bool]),(.exit 0,[])] L
def e50 (L4:Qi):=sE 0 26 [] [] [zhd L4]
def zyo (R:Type):D50_4 (D50_4 (Option R)→E50_4 R):=fun x1 x2 x3 kc k0 k1=>
let v4:=(x1.length:Int);let v5:=decide (x3<v4);(match v5 with
|true=>(match bnd x3 x1.length with
|true=>let v6:=x1.getD x3.toNat (0,(List.replicate 32 0),false,(List.replicate 32 0),());(match bnd x3 x2.length with
|true=>let v7:=x2.getD x3.toNat (0,(List.replicate 32 0),false,(List.replicate 32 0),());let v8:= !(Kd.eqv Kq3 v6 v7);(match v8 with
|true=>k0 false
|false=>let v9:=IntKind.i64.wrap (x3+1);kc x1 x2 v9)
|false=>none)
|false=>none)
|false=>k1)
theorem q50_4 (L4:Qi):LEQ (zhd L4) (e50 L4) Tryz.f50 zyo:=fun _ _ _ _=>by kernel_rfl
def Y0:Nat→Qi
 | 0=>fun _ _ _ _ _ _=>none
 | n+1=>fun R x1 x2 x3 k0 k1=>zyo R x1 x2 x3 (fun x1 x2 x3=>Y0 n R x1 x2 x3 k0 k1) k0 k1
def p50 (L4:Qi):FT50:=fun R a0 a1 k=>
let v1:=(a0.length:Int);let v2:=(a1.length:Int);let v3:=v1 !=v2;(match v3 with
|true=>k false
|false=>L4 R a0 a1 (0:Int) (fun x4=>
k x4) (k true))
theorem q50 (L4:Qi):EQ (en50 (p50 L4)) (e50 L4) Tryz.f50 [(.tmp 4,4,false)]:=fun _ _ _=>by kernel_rfl
def F50:FT50:=p50 (Y0 FUEL)
theorem zzz:LKP (zhd (Y0 FUEL)) 0 26 4 Tryz.f50:=ST.lok (q50_4 (Y0 FUEL)) Ab [] trivial
theorem ok50:OKP (en50 F50):=ST.ok1 (q50 (Y0 FUEL)) Ab Tryz.func50 [4] ⟨⟨_,rfl,zzz⟩,trivial⟩
abbrev FT30:=(R:Type)→Tq24→Tq24→(Bool→Option R)→Option R
def en30 (F:FT30):Ent:=eV 30 [Kq24,Kq24] [.bool] F
def p30 (F50:FT50):FT30:=fun R a0 a1 k=>
let v1:=a0.1==a1.1;(match v1 with
|true=>let v2:=Kd.eqv (.arr 32 (.int .u8)) a0.2.1 a1.2.1;(match v2 with
|true=>let v3:=Kd.eqv (.arr 32 (.int .u8)) a0.2.2.1 a1.2.2.1;(match v3 with
|true=>F50 R a0.2.2.2.1 a1.2.2.2.1 fun y4=>
k y4
|false=>k false)
|false=>k false)
|false=>k false)
theorem q30 (F50:FT50):EQ (en30 (p30 F50)) (sE 0 31 [] [en50 F50] []) Tryz.f30 [(.tmp 4,4,false)]:=fun _ _ _=>by kernel_rfl
def F30:FT30:=p30 F50
theorem ok30:OKP (en30 F30):=ST.ok0 (q30 F50) (Aa ok50 Ab) Tryz.func30
abbrev FT11:=(R:Type)→Tq29→Tq29→(Bool→Option R)→Option R
def en11 (F:FT11):Ent:=eV 11 [Kq29,Kq29] [.bool] F
def p11 (F20:FT20) (F29:FT29) (F30:FT30):FT11:=fun R a0 a1 k=>
let v1:=Kd.eqv Kq21 a0.1 a1.1;(match v1 with
|true=>let v2:=a0.2.1==a1.2.1;(match v2 with
|true=>F29 R a0.2.2.1 a1.2.2.1 fun y3=>
(match y3 with
|true=>F30 R a0.2.2.2.1 a1.2.2.2.1 fun y4=>
(match y4 with
|true=>F20 R a0.2.2.2.2.1 a1.2.2.2.2.1 fun y5=>
(match y5 with
|true=>F20 R a0.2.2.2.2.2.1 a1.2.2.2.2.2.1 fun y6=>
k y6
|false=>k false)
|false=>k false)
|false=>k false)
|false=>k false)
|false=>k false)
theorem q11 (F20:FT20) (F29:FT29) (F30:FT30):EQ (en11 (p11 F20 F29 F30)) (sE 0 45 [] [en20 F20,en29 F29,en30 F30] []) Tryz.f11 [(.tmp 4,4,false)]:=fun _ _ _=>by kernel_rfl
def F11:FT11:=p11 F20 F29 F30
theorem ok11:OKP (en11 F11):=ST.ok0 (q11 F20 F29 F30) (Aa ok20 (Aa ok29 (Aa ok30 Ab))) Tryz.func11
abbrev FT3:=(R:Type)→Tq21→LI→(Bool→Option R)→Option R
def en3 (F:FT3):Ent:=eV 3 [Kq21,(.arr 32 (.int .u8))] [.bool] F
def p3 (F8:FT8) (F9:FT9) (F10:FT10) (F11:FT11):FT3:=fun R a0 a1 k=>
F8 R  fun y1=>
(match (!y1) with
|true=>k false
|false=>F9 R a0 a1 fun y2 y3=>
F10 R a0 a1 fun y4 y5=>
F11 R y2 y4 fun y6=>
(match y6 with
|true=>let v7:=y3==y5;k v7
|false=>k false))
theorem q3 (F8:FT8) (F9:FT9) (F10:FT10) (F11:FT11):EQ (en3 (p3 F8 F9 F10 F11)) (sE 0 31 [] [en8 F8,en9 F9,en10 F10,en11 F11] []) Tryz.f3 [(.tmp 4,4,false)]:=fun _ _ _=>by kernel_rfl
def F3:FT3:=p3 F8 F9 F10 F11
theorem ok3:OKP (en3 F3):=ST.ok0 (q3 F8 F9 F10 F11) (Aa ok8 (Aa ok9 (Aa ok10 (Aa ok11 Ab)))) Tryz.func3
abbrev FT12:=(R:Type)→LI→(Tq21→Option R)→Option R
def en12 (F:FT12):Ent:=eV 12 [(.arr 5 (.int .u8))] [Kq21] F
def p12:FT12:=fun R a0 k=>
let v1:=a0.getD 0 0;let v2:=Int.tmod v1 (6:Int);let v3:=IntKind.i64.wrap v2;let v4:=IntKind.i64.wrap ((1:Int)+v3);let v5:=a0.getD 3 0;let v6:=Int.tmod v5 (64:Int);let v7:=IntKind.i64.wrap v6;let v8:=IntKind.i64.wrap ((1:Int)+v7);let v9:=a0.getD 4 0;let v10:=Int.tmod v9 (6:Int);let v11:=IntKind.i64.wrap v10;let v12:=IntKind.i64.wrap ((1:Int)+v11);let v13:=a0.getD 1 0;let v14:=IntKind.i64.wrap v13;let v15:=IntKind.i64.wrap (v4+1);(match (!(v15==0)) with
|true=>let v16:=Int.tmod v14 v15;let v17:=a0.getD 2 0;let v18:=IntKind.i64.wrap v17;let v19:=IntKind.i64.wrap (v4 - v16);let v20:=IntKind.i64.wrap (v19+1);(match (!(v20==0)) with
|true=>let v21:=Int.tmod v18 v20;k (v4,v16,v21,v8,v12,())
|false=>none)
|false=>none)
def F12:FT12:=p12
abbrev FT68:=(R:Type)→Int→(ByteArray→Option R)→Option R
def p68:FT68:=fun R a0 k=>
let v1:=a0==1;(match v1 with
|true=>k (⟨#[104,97]⟩:ByteArray)
|false=>let v2:=a0==2;(match v2 with
|true=>k (⟨#[119,97]⟩:ByteArray)
|false=>let v3:=a0==3;(match v3 with
|true=>k (⟨#[119,97]⟩:ByteArray)
|false=>let v4:=a0==4;(match v4 with
|true=>k (⟨#[119,104]⟩:ByteArray)
|false=>let v5:=a0==5;(match v5 with
|true=>k (⟨#[119,104]⟩:ByteArray)
|false=>let v6:=a0==6;(match v6 with
|true=>k (⟨#[45]⟩:ByteArray)
|false=>let v7:=a0==11;(match v7 with
|true=>k (⟨#[45]⟩:ByteArray)
|false=>let v8:=a0==7;(match v8 with
|true=>k (⟨#[110]⟩:ByteArray)
|false=>let v9:=a0==8;(match v9 with
|true=>k (⟨#[110]⟩:ByteArray)
|false=>let v10:=a0==9;(match v10 with
|true=>k (⟨#[110,119]⟩:ByteArray)
|false=>let v11:=a0==10;(match v11 with
|true=>k (⟨#[119,110]⟩:ByteArray)
|false=>k (⟨#[]⟩:ByteArray))))))))))))
def F68:FT68:=p68
abbrev FT115:=(R:Type)→Int→(Int→Option R)→Option R
def p115:FT115:=fun R a0 k=>
let v1:=a0==119;(match v1 with
|true=>k (4:Int)
|false=>let v2:=a0==110;(match v2 with
|true=>k (4:Int)
|false=>let v3:=a0==97;(match v3 with
|true=>k (8:Int)
|false=>let v4:=a0==104;(match v4 with
|true=>k (32:Int)
|false=>k (0:Int)))))
def F115:FT115:=p115
abbrev FT69:=(R:Type)→Int→(Int→Bool→Option R)→Option R
abbrev D69_6 (Z:Type):=ByteArray→Int→Int→Z
abbrev E69_6 (R:Type):=(Int→Option R)→Option R
abbrev zum:=(R:Type)→D69_6 (E69_6 R)
def p69_6 (F115:FT115) (R:Type):D69_6 (D69_6 (Option R)→E69_6 R):=fun x1 x2 x3 kc k0=>
let v4:=(ByteArray.size x1:Int);let v5:=decide (x3<v4);(match v5 with
|true=>(match (bnd x3 (ByteArray.size x1:Int)) with
|true=>let v6:=((List.getD (Array.toList (ByteArray.data x1)) x3.toNat 0).toNat:Int);F115 R v6 fun y7=>
let v8:=IntKind.i64.wrap (x2+y7);let v9:=IntKind.i64.wrap (x3+1);kc x1 v8 v9
|false=>none)
|false=>k0 x2)
def G69_6:Nat→zum
 | 0=>fun _ _ _ _ _=>none
 | n+1=>fun R x1 x2 x3 k0=>p69_6 F115 R x1 x2 x3 (fun x1 x2 x3=>G69_6 n R x1 x2 x3 k0) k0
def p69 (F68:FT68) (L6:zum):FT69:=fun R a0 k=>
F68 R a0 fun y1=>
let v2:=ByteArray.toList y1==ByteArray.toList (⟨#[]⟩:ByteArray);(match v2 with
|true=>k (0:Int) false
|false=>L6 R y1 (1:Int) (0:Int) (fun x3=>
k x3 true))
def F69:FT69:=p69 F68 (G69_6 FUEL)
abbrev FT70:=(R:Type)→ByteArray→Int→(Bool→Option R)→Option R
abbrev D70_2 (Z:Type):=ByteArray→Int→Int→Z
abbrev E70_2 (R:Type):=(Bool→Option R)→(Option R)→Option R
abbrev zul:=(R:Type)→D70_2 (E70_2 R)
def p70_2 (R:Type):D70_2 (D70_2 (Option R)→E70_2 R):=fun x1 x2 x3 kc k0 k1=>
let v4:=(ByteArray.size x1:Int);let v5:=decide (x3<v4);(match v5 with
|true=>(match (bnd x3 (ByteArray.size x1:Int)) with
|true=>let v6:=((List.getD (Array.toList (ByteArray.data x1)) x3.toNat 0).toNat:Int);let v7:=v6==x2;(match v7 with
|true=>k0 true
|false=>let v8:=IntKind.i64.wrap (x3+1);kc x1 x2 v8)
|false=>none)
|false=>k1)
def G70_2:Nat→zul
 | 0=>fun _ _ _ _ _ _=>none
 | n+1=>fun R x1 x2 x3 k0 k1=>p70_2 R x1 x2 x3 (fun x1 x2 x3=>G70_2 n R x1 x2 x3 k0 k1) k0 k1
def p70 (L2:zul):FT70:=fun R a0 a1 k=>
L2 R a0 a1 (0:Int) (fun x1=>
k x1) (k false)
def F70:FT70:=p70 (G70_2 FUEL)
abbrev FT33:=(R:Type)→Tq13→(Bool→Option R)→Option R
def p33 (F68:FT68) (F69:FT69) (F70:FT70):FT33:=fun R a0 k=>
F68 R a0.1 fun y1=>
let v2:=ByteArray.toList y1==ByteArray.toList (⟨#[]⟩:ByteArray);(match v2 with
|true=>F69 R a0.2.2.2.2.1 fun y3 y4=>
let v5:=Kd.eqv Kq13 a0 ((0:Int),(0:Int),(0:Int),(List.replicate 32 (0:Int)),a0.2.2.2.2.1,());(match v5 with
|true=>let v6:=decide (a0.2.2.2.2.1≥0);(match v6 with
|true=>let v7:=decide (a0.2.2.2.2.1≤255);(match v7 with
|true=>k (!y4)
|false=>k false)
|false=>k false)
|false=>k false)
|false=>F70 R y1 (119:Int) fun y8=>
(match (!y8) with
|true=>let v9:=a0.2.1 !=0;(match v9 with
|true=>k false
|false=>F70 R y1 (110:Int) fun y10=>
(match (!y10) with
|true=>let v11:=a0.2.2.2.2.1 !=0;(match v11 with
|true=>k false
|false=>F70 R y1 (97:Int) fun y12=>
(match (!y12) with
|true=>let v13:=a0.2.2.1 !=0;(match v13 with
|true=>k false
|false=>F70 R y1 (104:Int) fun y14=>
(match (!y14) with
|true=>let v15:=List.replicate 32 (0:Int);let v16:= !(Kd.eqv (.arr 32 (.int .u8)) a0.2.2.2.1 v15);(match v16 with
|true=>k false
|false=>let v17:=decide (a0.2.1≥0);(match v17 with
|true=>let v18:=decide (a0.2.1<4294967296);(match v18 with
|true=>let v19:=decide (a0.2.2.2.2.1≥0);(match v19 with
|true=>let v20:=decide (a0.2.2.2.2.1<4294967296);k v20
|false=>k false)
|false=>k false)
|false=>k false))
|false=>let v21:=decide (a0.2.1≥0);(match v21 with
|true=>let v22:=decide (a0.2.1<4294967296);(match v22 with
|true=>let v23:=decide (a0.2.2.2.2.1≥0);(match v23 with
|true=>let v24:=decide (a0.2.2.2.2.1<4294967296);k v24
|false=>k false)
|false=>k false)
|false=>k false)))
|false=>F70 R y1 (104:Int) fun y25=>
(match (!y25) with
|true=>let v26:=List.replicate 32 (0:Int);let v27:= !(Kd.eqv (.arr 32 (.int .u8)) a0.2.2.2.1 v26);(match v27 with
|true=>k false
|false=>let v28:=decide (a0.2.1≥0);(match v28 with
|true=>let v29:=decide (a0.2.1<4294967296);(match v29 with
|true=>let v30:=decide (a0.2.2.2.2.1≥0);(match v30 with
|true=>let v31:=decide (a0.2.2.2.2.1<4294967296);k v31
|false=>k false)
|false=>k false)
|false=>k false))
|false=>let v32:=decide (a0.2.1≥0);(match v32 with
|true=>let v33:=decide (a0.2.1<4294967296);(match v33 with
|true=>let v34:=decide (a0.2.2.2.2.1≥0);(match v34 with
|true=>let v35:=decide (a0.2.2.2.2.1<4294967296);k v35
|false=>k false)
|false=>k false)
|false=>k false))))
|false=>F70 R y1 (97:Int) fun y36=>
(match (!y36) with
|true=>let v37:=a0.2.2.1 !=0;(match v37 with
|true=>k false
|false=>F70 R y1 (104:Int) fun y38=>
(match (!y38) with
|true=>let v39:=List.replicate 32 (0:Int);let v40:= !(Kd.eqv (.arr 32 (.int .u8)) a0.2.2.2.1 v39);(match v40 with
|true=>k false
|false=>let v41:=decide (a0.2.1≥0);(match v41 with
|true=>let v42:=decide (a0.2.1<4294967296);(match v42 with
|true=>let v43:=decide (a0.2.2.2.2.1≥0);(match v43 with
|true=>let v44:=decide (a0.2.2.2.2.1<4294967296);k v44
|false=>k false)
|false=>k false)
|false=>k false))
|false=>let v45:=decide (a0.2.1≥0);(match v45 with
|true=>let v46:=decide (a0.2.1<4294967296);(match v46 with
|true=>let v47:=decide (a0.2.2.2.2.1≥0);(match v47 with
|true=>let v48:=decide (a0.2.2.2.2.1<4294967296);k v48
|false=>k false)
|false=>k false)
|false=>k false)))
|false=>F70 R y1 (104:Int) fun y49=>
(match (!y49) with
|true=>let v50:=List.replicate 32 (0:Int);let v51:= !(Kd.eqv (.arr 32 (.int .u8)) a0.2.2.2.1 v50);(match v51 with
|true=>k false
|false=>let v52:=decide (a0.2.1≥0);(match v52 with
|true=>let v53:=decide (a0.2.1<4294967296);(match v53 with
|true=>let v54:=decide (a0.2.2.2.2.1≥0);(match v54 with
|true=>let v55:=decide (a0.2.2.2.2.1<4294967296);k v55
|false=>k false)
|false=>k false)
|false=>k false))
|false=>let v56:=decide (a0.2.1≥0);(match v56 with
|true=>let v57:=decide (a0.2.1<4294967296);(match v57 with
|true=>let v58:=decide (a0.2.2.2.2.1≥0);(match v58 with
|true=>let v59:=decide (a0.2.2.2.2.1<4294967296);k v59
|false=>k false)
|false=>k false)
|false=>k false)))))
|false=>F70 R y1 (110:Int) fun y60=>
(match (!y60) with
|true=>let v61:=a0.2.2.2.2.1 !=0;(match v61 with
|true=>k false
|false=>F70 R y1 (97:Int) fun y62=>
(match (!y62) with
|true=>let v63:=a0.2.2.1 !=0;(match v63 with
|true=>k false
|false=>F70 R y1 (104:Int) fun y64=>
(match (!y64) with
|true=>let v65:=List.replicate 32 (0:Int);let v66:= !(Kd.eqv (.arr 32 (.int .u8)) a0.2.2.2.1 v65);(match v66 with
|true=>k false
|false=>let v67:=decide (a0.2.1≥0);(match v67 with
|true=>let v68:=decide (a0.2.1<4294967296);(match v68 with
|true=>let v69:=decide (a0.2.2.2.2.1≥0);(match v69 with
|true=>let v70:=decide (a0.2.2.2.2.1<4294967296);k v70
|false=>k false)
|false=>k false)
|false=>k false))
|false=>let v71:=decide (a0.2.1≥0);(match v71 with
|true=>let v72:=decide (a0.2.1<4294967296);(match v72 with
|true=>let v73:=decide (a0.2.2.2.2.1≥0);(match v73 with
|true=>let v74:=decide (a0.2.2.2.2.1<4294967296);k v74
|false=>k false)
|false=>k false)
|false=>k false)))
|false=>F70 R y1 (104:Int) fun y75=>
(match (!y75) with
|true=>let v76:=List.replicate 32 (0:Int);let v77:= !(Kd.eqv (.arr 32 (.int .u8)) a0.2.2.2.1 v76);(match v77 with
|true=>k false
|false=>let v78:=decide (a0.2.1≥0);(match v78 with
|true=>let v79:=decide (a0.2.1<4294967296);(match v79 with
|true=>let v80:=decide (a0.2.2.2.2.1≥0);(match v80 with
|true=>let v81:=decide (a0.2.2.2.2.1<4294967296);k v81
|false=>k false)
|false=>k false)
|false=>k false))
|false=>let v82:=decide (a0.2.1≥0);(match v82 with
|true=>let v83:=decide (a0.2.1<4294967296);(match v83 with
|true=>let v84:=decide (a0.2.2.2.2.1≥0);(match v84 with
|true=>let v85:=decide (a0.2.2.2.2.1<4294967296);k v85
|false=>k false)
|false=>k false)
|false=>k false))))
|false=>F70 R y1 (97:Int) fun y86=>
(match (!y86) with
|true=>let v87:=a0.2.2.1 !=0;(match v87 with
|true=>k false
|false=>F70 R y1 (104:Int) fun y88=>
(match (!y88) with
|true=>let v89:=List.replicate 32 (0:Int);let v90:= !(Kd.eqv (.arr 32 (.int .u8)) a0.2.2.2.1 v89);(match v90 with
|true=>k false
|false=>let v91:=decide (a0.2.1≥0);(match v91 with
|true=>let v92:=decide (a0.2.1<4294967296);(match v92 with
|true=>let v93:=decide (a0.2.2.2.2.1≥0);(match v93 with
|true=>let v94:=decide (a0.2.2.2.2.1<4294967296);k v94
|false=>k false)
|false=>k false)
|false=>k false))
|false=>let v95:=decide (a0.2.1≥0);(match v95 with
|true=>let v96:=decide (a0.2.1<4294967296);(match v96 with
|true=>let v97:=decide (a0.2.2.2.2.1≥0);(match v97 with
|true=>let v98:=decide (a0.2.2.2.2.1<4294967296);k v98
|false=>k false)
|false=>k false)
|false=>k false)))
|false=>F70 R y1 (104:Int) fun y99=>
(match (!y99) with
|true=>let v100:=List.replicate 32 (0:Int);let v101:= !(Kd.eqv (.arr 32 (.int .u8)) a0.2.2.2.1 v100);(match v101 with
|true=>k false
|false=>let v102:=decide (a0.2.1≥0);(match v102 with
|true=>let v103:=decide (a0.2.1<4294967296);(match v103 with
|true=>let v104:=decide (a0.2.2.2.2.1≥0);(match v104 with
|true=>let v105:=decide (a0.2.2.2.2.1<4294967296);k v105
|false=>k false)
|false=>k false)
|false=>k false))
|false=>let v106:=decide (a0.2.1≥0);(match v106 with
|true=>let v107:=decide (a0.2.1<4294967296);(match v107 with
|true=>let v108:=decide (a0.2.2.2.2.1≥0);(match v108 with
|true=>let v109:=decide (a0.2.2.2.2.1<4294967296);k v109
|false=>k false)
|false=>k false)
|false=>k false))))))
def F33:FT33:=p33 F68 F69 F70
abbrev FT34:=(R:Type)→Int→(Tq17→Option R)→Option R
def p34:FT34:=fun R a0 k=>
k (a0,(0:Int),([]:LI),(List.replicate 32 (0:Int)),())
def F34:FT34:=p34
abbrev FT22:=(R:Type)→(List Tq5)→(LI→Option R)→Option R
def en22 (F:FT22):Ent:=eV 22 [(.sl Kq5)] [(.sl (.int .u64))] F
abbrev D22_3 (Z:Type):=(List Tq5)→Int→LI→Z
abbrev E22_3 (R:Type):=(LI→Option R)→Option R
abbrev zun:=(R:Type)→D22_3 (E22_3 R)
def p22_3 (R:Type):D22_3 (D22_3 (Option R)→E22_3 R):=fun x1 x2 x3 kc k0=>
let v4:=(x1.length:Int);let v5:=decide (x2<v4);(match v5 with
|true=>(match bnd x2 x1.length with
|true=>let v6:=(x1.getD x2.toNat ((List.replicate 32 0),0,0,())).2.1;let v7:=([v6]:LI);(match (decide (x3.length+v7.length≤17592186044416)) with
|true=>let v8:=x3++v7;let v9:=IntKind.i64.wrap (x2+1);kc x1 v9 v8
|false=>none)
|false=>none)
|false=>k0 x3)
def G22_3:Nat→zun
 | 0=>fun _ _ _ _ _=>none
 | n+1=>fun R x1 x2 x3 k0=>p22_3 R x1 x2 x3 (fun x1 x2 x3=>G22_3 n R x1 x2 x3 k0) k0
def p22 (L3:zun):FT22:=fun R a0 k=>
L3 R a0 (0:Int) ([]:LI) (fun x1=>
k x1)
def F22:FT22:=p22 (G22_3 FUEL)
abbrev FT128:=(R:Type)→Int→Int→(Int→Bool→Option R)→Option R
def p128:FT128:=fun R a0 a1 k=>
let v1:=decide (a0≥9223372036854775808);(match v1 with
|true=>k (0:Int) false
|false=>let v2:=IntKind.u64.wrap ((9223372036854775808:Int) - a0);let v3:=decide (a1≥v2);(match v3 with
|true=>k (0:Int) false
|false=>let v4:=IntKind.u64.wrap (a0+a1);k v4 true))
def F128:FT128:=p128
abbrev FT86:=(R:Type)→LI→(Int→Bool→Option R)→Option R
abbrev D86_3 (Z:Type):=LI→Int→Int→Z
abbrev E86_3 (R:Type):=(Int→Bool→Option R)→(Int→Option R)→Option R
abbrev zuh:=(R:Type)→D86_3 (E86_3 R)
def p86_3 (F128:FT128) (R:Type):D86_3 (D86_3 (Option R)→E86_3 R):=fun x1 x2 x3 kc k0 k1=>
let v4:=(x1.length:Int);let v5:=decide (x3<v4);(match v5 with
|true=>(match bnd x3 x1.length with
|true=>let v6:=x1.getD x3.toNat 0;F128 R x2 v6 fun y7 y8=>
(match (!y8) with
|true=>k0 (0:Int) false
|false=>let v9:=IntKind.i64.wrap (x3+1);kc x1 y7 v9)
|false=>none)
|false=>k1 x2)
def G86_3:Nat→zuh
 | 0=>fun _ _ _ _ _ _=>none
 | n+1=>fun R x1 x2 x3 k0 k1=>p86_3 F128 R x1 x2 x3 (fun x1 x2 x3=>G86_3 n R x1 x2 x3 k0 k1) k0 k1
def p86 (L3:zuh):FT86:=fun R a0 k=>
L3 R a0 (0:Int) (0:Int) (fun x1 x2=>
k x1 x2) (fun x3=>
k x3 true)
def F86:FT86:=p86 (G86_3 FUEL)
abbrev ztk:=(R:Type)→(List Tq5)→(LI→Option R)→Option R
abbrev zov (Z:Type):=(List Tq5)→Int→LI→Z
abbrev zxk (R:Type):=(LI→Option R)→Option R
abbrev zj6:=(R:Type)→zov (zxk R)
def p118_3 (R:Type):zov (zov (Option R)→zxk R):=fun x1 x2 x3 kc k0=>
let v4:=(x1.length:Int);let v5:=decide (x2<v4);(match v5 with
|true=>(match bnd x2 x1.length with
|true=>let v6:=(x1.getD x2.toNat ((List.replicate 32 0),0,0,())).2.2.1;let v7:=([v6]:LI);(match (decide (x3.length+v7.length≤17592186044416)) with
|true=>let v8:=x3++v7;let v9:=IntKind.i64.wrap (x2+1);kc x1 v9 v8
|false=>none)
|false=>none)
|false=>k0 x3)
def zvm:Nat→zj6
 | 0=>fun _ _ _ _ _=>none
 | n+1=>fun R x1 x2 x3 k0=>p118_3 R x1 x2 x3 (fun x1 x2 x3=>zvm n R x1 x2 x3 k0) k0
def p118 (L3:zj6):ztk:=fun R a0 k=>
L3 R a0 (0:Int) ([]:LI) (fun x1=>
k x1)
def F118:ztk:=p118 (zvm FUEL)
abbrev zl5:=(R:Type)→(List Tq5)→(Bool→Option R)→Option R
abbrev zoy (Z:Type):=(List Tq5)→Int→Z
abbrev zxn (R:Type):=(Bool→Option R)→(Option R)→Option R
abbrev zj9:=(R:Type)→zoy (zxn R)
abbrev zox (Z:Type):=(List Tq5)→Int→Int→Z
abbrev zxm (R:Type):=(Bool→Option R)→((List Tq5)→Int→Option R)→Option R
abbrev zj8:=(R:Type)→zox (zxm R)
def p116_9 (R:Type):zox (zox (Option R)→zxm R):=fun x1 x2 x3 kc k0 k1=>
let v4:=decide (x3<x2);(match v4 with
|true=>(match bnd x2 x1.length with
|true=>let v5:=(x1.getD x2.toNat ((List.replicate 32 0),0,0,())).1;(match bnd x3 x1.length with
|true=>let v6:=(x1.getD x3.toNat ((List.replicate 32 0),0,0,())).1;let v7:=Kd.eqv (.arr 32 (.int .u8)) v5 v6;(match v7 with
|true=>k0 false
|false=>let v8:=IntKind.i64.wrap (x3+1);kc x1 x2 v8)
|false=>none)
|false=>none)
|false=>k1 x1 x2)
def zvo:Nat→zj8
 | 0=>fun _ _ _ _ _ _=>none
 | n+1=>fun R x1 x2 x3 k0 k1=>p116_9 R x1 x2 x3 (fun x1 x2 x3=>zvo n R x1 x2 x3 k0 k1) k0 k1
def p116_6 (L9:zj8) (R:Type):zoy (zoy (Option R)→zxn R):=fun x1 x2 kc k0 k1=>
let v3:=(x1.length:Int);let v4:=decide (x2<v3);(match v4 with
|true=>L9 R x1 x2 (0:Int) (fun x5=>
k0 x5) (fun x6 x7=>
let v8:=IntKind.i64.wrap (x7+1);kc x6 v8)
|false=>k1)
def zvp:Nat→zj9
 | 0=>fun _ _ _ _ _=>none
 | n+1=>fun R x1 x2 k0 k1=>p116_6 (zvo FUEL) R x1 x2 (fun x1 x2=>zvp n R x1 x2 k0 k1) k0 k1
def p116 (F22:FT22) (F86:FT86) (F118:ztk) (L6:zj9):zl5:=fun R a0 k=>
F22 R a0 fun y1=>
F86 R y1 fun y2 y3=>
F118 R a0 fun y4=>
F86 R y4 fun y5 y6=>
let v7:=(a0.length:Int);let v8:=decide (v7>1048576);(match v8 with
|true=>k false
|false=>(match (!y3) with
|true=>k false
|false=>(match (!y6) with
|true=>k false
|false=>L6 R a0 (0:Int) (fun x9=>
k x9) (k true))))
def F116:zl5:=p116 F22 F86 F118 (zvp FUEL)
abbrev FT117:=(R:Type)→(List Tq5)→LI→(Int→Bool→Option R)→Option R
abbrev zow (Z:Type):=(List Tq5)→Int→LI→Z
abbrev zxl (R:Type):=(Int→Bool→Option R)→(Option R)→Option R
abbrev zj7:=(R:Type)→zow (zxl R)
def p117_2 (R:Type):zow (zow (Option R)→zxl R):=fun x1 x2 x3 kc k0 k1=>
let v4:=(x1.length:Int);let v5:=decide (x2<v4);(match v5 with
|true=>(match bnd x2 x1.length with
|true=>let v6:=(x1.getD x2.toNat ((List.replicate 32 0),0,0,())).1;let v7:=Kd.eqv (.arr 32 (.int .u8)) v6 x3;(match v7 with
|true=>k0 x2 true
|false=>let v8:=IntKind.i64.wrap (x2+1);kc x1 v8 x3)
|false=>none)
|false=>k1)
def zvn:Nat→zj7
 | 0=>fun _ _ _ _ _ _=>none
 | n+1=>fun R x1 x2 x3 k0 k1=>p117_2 R x1 x2 x3 (fun x1 x2 x3=>zvn n R x1 x2 x3 k0 k1) k0 k1
def p117 (L2:zj7):FT117:=fun R a0 a1 k=>
L2 R a0 (0:Int) a1 (fun x1 x2=>
k x1 x2) (k (0:Int) false)
def F117:FT117:=p117 (zvn FUEL)
abbrev zl4:=(R:Type)→(List Tq5)→Int→Int→((List Tq5)→Option R)→Option R
def p119:zl4:=fun R a0 a1 a2 k=>
let v1:=([]:(List Tq5));(match (decide (v1.length+a0.length≤2932031007402)) with
|true=>let v2:=v1++a0;(match bnd a1 v2.length with
|true=>let v3:=v2.set a1.toNat ((v2.getD a1.toNat ((List.replicate 32 0),0,0,())).1,(v2.getD a1.toNat ((List.replicate 32 0),0,0,())).2.1,a2,(v2.getD a1.toNat ((List.replicate 32 0),0,0,())).2.2.2);k v3
|false=>none)
|false=>none)
def F119:zl4:=p119
abbrev FT71:=(R:Type)→(List Tq5)→LI→Int→Int→((List Tq5)→Int→Int→Option R)→Option R
def p71 (F86:FT86) (F116:zl5) (F117:FT117) (F118:ztk) (F119:zl4):FT71:=fun R a0 a1 a2 a3 k=>
F116 R a0 fun y1=>
(match (!y1) with
|true=>k ([]:(List Tq5)) (0:Int) (1:Int)
|false=>let v2:=a2==0;(match v2 with
|true=>k ([]:(List Tq5)) (0:Int) (1:Int)
|false=>let v3:=decide (a3<1);(match v3 with
|true=>k ([]:(List Tq5)) (0:Int) (1:Int)
|false=>let v4:=decide (a3>1048576);(match v4 with
|true=>k ([]:(List Tq5)) (0:Int) (1:Int)
|false=>F117 R a0 a1 fun y5 y6=>
(match (!y6) with
|true=>let v7:=(a0.length:Int);let v8:=decide (v7≥a3);(match v8 with
|true=>k ([]:(List Tq5)) (0:Int) (4:Int)
|false=>F118 R a0 fun y9=>
let v10:=([a2]:LI);(match (decide (y9.length+v10.length≤17592186044416)) with
|true=>let v11:=y9++v10;F86 R v11 fun y12 y13=>
(match (!y13) with
|true=>k ([]:(List Tq5)) (0:Int) (11:Int)
|false=>(match (!y6) with
|true=>let v14:=([]:(List Tq5));(match (decide (v14.length+a0.length≤2932031007402)) with
|true=>let v15:=v14++a0;let v16:=([(a1,(0:Int),a2,())]:(List Tq5));(match (decide (v15.length+v16.length≤2932031007402)) with
|true=>let v17:=v15++v16;let v18:=(a0.length:Int);k v17 v18 (0:Int)
|false=>none)
|false=>none)
|false=>(match bnd y5 a0.length with
|true=>let v19:=(a0.getD y5.toNat ((List.replicate 32 0),0,0,())).2.2.1;let v20:=IntKind.u64.wrap (v19+a2);F119 R a0 y5 v20 fun y21=>
k y21 y5 (0:Int)
|false=>none)))
|false=>none))
|false=>F118 R a0 fun y22=>
let v23:=([a2]:LI);(match (decide (y22.length+v23.length≤17592186044416)) with
|true=>let v24:=y22++v23;F86 R v24 fun y25 y26=>
(match (!y26) with
|true=>k ([]:(List Tq5)) (0:Int) (11:Int)
|false=>(match (!y6) with
|true=>let v27:=([]:(List Tq5));(match (decide (v27.length+a0.length≤2932031007402)) with
|true=>let v28:=v27++a0;let v29:=([(a1,(0:Int),a2,())]:(List Tq5));(match (decide (v28.length+v29.length≤2932031007402)) with
|true=>let v30:=v28++v29;let v31:=(a0.length:Int);k v30 v31 (0:Int)
|false=>none)
|false=>none)
|false=>(match bnd y5 a0.length with
|true=>let v32:=(a0.getD y5.toNat ((List.replicate 32 0),0,0,())).2.2.1;let v33:=IntKind.u64.wrap (v32+a2);F119 R a0 y5 v33 fun y34=>
k y34 y5 (0:Int)
|false=>none)))
|false=>none))))))
def F71:FT71:=p71 F86 F116 F117 F118 F119
abbrev FT72:=(R:Type)→(List Tq5)→Int→Int→((List Tq5)→Int→Int→Option R)→Option R
def p72 (F116:zl5) (F119:zl4):FT72:=fun R a0 a1 a2 k=>
F116 R a0 fun y1=>
(match (!y1) with
|true=>k ([]:(List Tq5)) (0:Int) (1:Int)
|false=>let v2:=a2==0;(match v2 with
|true=>k ([]:(List Tq5)) (0:Int) (1:Int)
|false=>let v3:=decide (a1<0);(match v3 with
|true=>k ([]:(List Tq5)) (0:Int) (5:Int)
|false=>let v4:=(a0.length:Int);let v5:=decide (a1≥v4);(match v5 with
|true=>k ([]:(List Tq5)) (0:Int) (5:Int)
|false=>(match bnd a1 a0.length with
|true=>let v6:=(a0.getD a1.toNat ((List.replicate 32 0),0,0,())).2.2.1;let v7:=decide (a2>v6);(match v7 with
|true=>k ([]:(List Tq5)) (0:Int) (12:Int)
|false=>(match bnd a1 a0.length with
|true=>let v8:=(a0.getD a1.toNat ((List.replicate 32 0),0,0,())).2.2.1;let v9:=IntKind.u64.wrap (v8 - a2);F119 R a0 a1 v9 fun y10=>
(match bnd a1 a0.length with
|true=>let v11:=(a0.getD a1.toNat ((List.replicate 32 0),0,0,())).2.2.1;let v12:=IntKind.u64.wrap (v11 - a2);k y10 v12 (0:Int)
|false=>none)
|false=>none))
|false=>none)))))
def F72:FT72:=p72 F116 F119
abbrev FT73:=(R:Type)→(List Tq5)→Int→Int→((List Tq5)→Int→Int→Option R)→Option R
def p73 (F116:zl5) (F119:zl4):FT73:=fun R a0 a1 a2 k=>
F116 R a0 fun y1=>
(match (!y1) with
|true=>k ([]:(List Tq5)) (0:Int) (1:Int)
|false=>let v2:=decide (a1<0);(match v2 with
|true=>k ([]:(List Tq5)) (0:Int) (5:Int)
|false=>let v3:=(a0.length:Int);let v4:=decide (a1≥v3);(match v4 with
|true=>k ([]:(List Tq5)) (0:Int) (5:Int)
|false=>(match bnd a1 a0.length with
|true=>let v5:=(a0.getD a1.toNat ((List.replicate 32 0),0,0,())).2.2.1;let v6:=decide (a2>v5);(match v6 with
|true=>(match bnd a1 a0.length with
|true=>let v7:=(a0.getD a1.toNat ((List.replicate 32 0),0,0,())).2.2.1;(match bnd a1 a0.length with
|true=>let v8:=(a0.getD a1.toNat ((List.replicate 32 0),0,0,())).2.2.1;let v9:=IntKind.u64.wrap (v8 - v7);F119 R a0 a1 v9 fun y10=>
k y10 v7 (0:Int)
|false=>none)
|false=>none)
|false=>(match bnd a1 a0.length with
|true=>let v11:=(a0.getD a1.toNat ((List.replicate 32 0),0,0,())).2.2.1;let v12:=IntKind.u64.wrap (v11 - a2);F119 R a0 a1 v12 fun y13=>
k y13 a2 (0:Int)
|false=>none))
|false=>none))))
def F73:FT73:=p73 F116 F119
abbrev FT35:=(R:Type)→Tq29→Tq13→(Tq29→Tq17→Option R)→Option R
def p35 (F34:FT34) (F71:FT71) (F72:FT72) (F73:FT73):FT35:=fun R a0 a1 k=>
let v1:=a1.1==1;(match v1 with
|true=>F71 R a0.2.2.1 a1.2.2.2.1 a1.2.2.1 a0.1.2.2.2.2.1 fun y2 y3 y4=>
let v5:=IntKind.u64.wrap y3;let v6:=y4 !=0;(match v6 with
|true=>F34 R y4 fun y7=>
k a0 y7
|false=>k (a0.1,a0.2.1,y2,a0.2.2.2) ((0:Int),v5,([]:LI),(List.replicate 32 (0:Int)),()))
|false=>let v8:=a1.1==2;(match v8 with
|true=>F72 R a0.2.2.1 a1.2.1 a1.2.2.1 fun y9 y10 y11=>
let v12:=y11 !=0;(match v12 with
|true=>F34 R y11 fun y13=>
k a0 y13
|false=>k (a0.1,a0.2.1,y9,a0.2.2.2) ((0:Int),y10,([]:LI),(List.replicate 32 (0:Int)),()))
|false=>F73 R a0.2.2.1 a1.2.1 a1.2.2.1 fun y14 y15 y16=>
let v17:=y16 !=0;(match v17 with
|true=>F34 R y16 fun y18=>
k a0 y18
|false=>k (a0.1,a0.2.1,y14,a0.2.2.2) ((0:Int),y15,([]:LI),(List.replicate 32 (0:Int)),()))))
def F35:FT35:=p35 F34 F71 F72 F73
abbrev FT74:=(R:Type)→Tq29→Int→(Bool→Option R)→Option R
def p74:FT74:=fun R a0 a1 k=>
let v1:=decide (a1≥0);(match v1 with
|true=>let v2:=(a0.2.2.1.length:Int);let v3:=decide (a1<v2);k v3
|false=>k false)
def F74:FT74:=p74
abbrev FT75:=(R:Type)→Tq21→Int→(Int→Option R)→Option R
def p75 (F28:FT28):FT75:=fun R a0 a1 k=>
F28 R a0 fun y1=>
(match (!y1) with
|true=>k (0:Int)
|false=>let v2:=decide (a1<0);(match v2 with
|true=>k (0:Int)
|false=>let v3:=decide (a1≥a0.1);(match v3 with
|true=>k (0:Int)
|false=>let v4:=decide (a1<a0.2.1);(match v4 with
|true=>k (1:Int)
|false=>let v5:=IntKind.i64.wrap (a0.2.1+a0.2.2.1);let v6:=decide (a1<v5);(match v6 with
|true=>k (2:Int)
|false=>k (3:Int))))))
def F75:FT75:=p75 F28
abbrev zlq:=(R:Type)→(List Tq3)→(Bool→Option R)→Option R
abbrev zoc (Z:Type):=(List Tq3)→Int→Z
abbrev zw1 (R:Type):=(Bool→Option R)→(Option R)→Option R
abbrev zjx:=(R:Type)→zoc (zw1 R)
def p167_2 (F23:FT23) (R:Type):zoc (zoc (Option R)→zw1 R):=fun x1 x2 kc k0 k1=>
let v3:=(x1.length:Int);let v4:=decide (x2<v3);(match v4 with
|true=>(match bnd x2 x1.length with
|true=>let v5:=x1.getD x2.toNat (0,(List.replicate 32 0),false,(List.replicate 32 0),());let v6:=decide (v5.1<0);(match v6 with
|true=>k0 false
|false=>let v7:=decide (x2>0);(match v7 with
|true=>let v8:=IntKind.i64.wrap (x2 - 1);(match bnd v8 x1.length with
|true=>let v9:=(x1.getD v8.toNat (0,(List.replicate 32 0),false,(List.replicate 32 0),())).1;let v10:=decide (v9≥v5.1);(match v10 with
|true=>k0 false
|false=>(match v5.2.2.1 with
|true=>F23 R v5.2.2.2.1 fun y11=>
let v12:= !(Kd.eqv (.arr 32 (.int .u8)) y11 v5.2.1);(match v12 with
|true=>k0 false
|false=>let v13:= !v5.2.2.1;(match v13 with
|true=>let v14:=List.replicate 32 (0:Int);let v15:= !(Kd.eqv (.arr 32 (.int .u8)) v5.2.2.2.1 v14);(match v15 with
|true=>k0 false
|false=>let v16:=IntKind.i64.wrap (x2+1);kc x1 v16)
|false=>let v17:=IntKind.i64.wrap (x2+1);kc x1 v17))
|false=>let v18:= !v5.2.2.1;(match v18 with
|true=>let v19:=List.replicate 32 (0:Int);let v20:= !(Kd.eqv (.arr 32 (.int .u8)) v5.2.2.2.1 v19);(match v20 with
|true=>k0 false
|false=>let v21:=IntKind.i64.wrap (x2+1);kc x1 v21)
|false=>let v22:=IntKind.i64.wrap (x2+1);kc x1 v22)))
|false=>none)
|false=>(match v5.2.2.1 with
|true=>F23 R v5.2.2.2.1 fun y23=>
let v24:= !(Kd.eqv (.arr 32 (.int .u8)) y23 v5.2.1);(match v24 with
|true=>k0 false
|false=>let v25:= !v5.2.2.1;(match v25 with
|true=>let v26:=List.replicate 32 (0:Int);let v27:= !(Kd.eqv (.arr 32 (.int .u8)) v5.2.2.2.1 v26);(match v27 with
|true=>k0 false
|false=>let v28:=IntKind.i64.wrap (x2+1);kc x1 v28)
|false=>let v29:=IntKind.i64.wrap (x2+1);kc x1 v29))
|false=>let v30:= !v5.2.2.1;(match v30 with
|true=>let v31:=List.replicate 32 (0:Int);let v32:= !(Kd.eqv (.arr 32 (.int .u8)) v5.2.2.2.1 v31);(match v32 with
|true=>k0 false
|false=>let v33:=IntKind.i64.wrap (x2+1);kc x1 v33)
|false=>let v34:=IntKind.i64.wrap (x2+1);kc x1 v34))))
|false=>none)
|false=>k1)
def zvd:Nat→zjx
 | 0=>fun _ _ _ _ _=>none
 | n+1=>fun R x1 x2 k0 k1=>p167_2 F23 R x1 x2 (fun x1 x2=>zvd n R x1 x2 k0 k1) k0 k1
def p167 (L2:zjx):zlq:=fun R a0 k=>
L2 R a0 (0:Int) (fun x1=>
k x1) (k true)
def F167:zlq:=p167 (zvd FUEL)
abbrev FT169:=(R:Type)→(List LI)→(LI→Option R)→Option R
abbrev zoa (Z:Type):=(List LI)→Int→LI→LI→Z
abbrev zwz (R:Type):=(LI→LI→Option R)→Option R
abbrev zjv:=(R:Type)→zoa (zwz R)
abbrev zn9 (Z:Type):=(List LI)→Int→Int→LI→LI→Z
abbrev zwy (R:Type):=((List LI)→Int→LI→LI→Option R)→Option R
abbrev zju:=(R:Type)→zn9 (zwy R)
def p169_6 (R:Type):zn9 (zn9 (Option R)→zwy R):=fun x1 x2 x3 x4 x5 kc k0=>
let v6:=decide (x3<32);(match v6 with
|true=>(match (bnd x3 (32:Int)) with
|true=>let v7:=x5.getD x3.toNat 0;(match bnd x2 x1.length with
|true=>(match (bnd x3 (32:Int)) with
|true=>let v8:=List.getD (x1.getD x2.toNat (List.replicate 32 0)) x3.toNat (0:Int);let v9:=ixor .u8 v7 v8;(match (bnd x3 (32:Int)) with
|true=>let v10:=x5.set x3.toNat v9;let v11:=IntKind.i64.wrap (x3+1);kc x1 x2 v11 x4 v10
|false=>none)
|false=>none)
|false=>none)
|false=>none)
|false=>k0 x1 x2 x4 x5)
def zva:Nat→zju
 | 0=>fun _ _ _ _ _ _ _=>none
 | n+1=>fun R x1 x2 x3 x4 x5 k0=>p169_6 R x1 x2 x3 x4 x5 (fun x1 x2 x3 x4 x5=>zva n R x1 x2 x3 x4 x5 k0) k0
def p169_3 (L6:zju) (R:Type):zoa (zoa (Option R)→zwz R):=fun x1 x2 x3 x4 kc k0=>
let v5:=(x1.length:Int);let v6:=decide (x2<v5);(match v6 with
|true=>L6 R x1 x2 (0:Int) x3 x4 (fun x7 x8 x9 x10=>
let v11:=IntKind.i64.wrap (x8+1);kc x7 v11 x9 x10)
|false=>k0 x3 x4)
def zvb:Nat→zjv
 | 0=>fun _ _ _ _ _ _=>none
 | n+1=>fun R x1 x2 x3 x4 k0=>p169_3 (zva FUEL) R x1 x2 x3 x4 (fun x1 x2 x3 x4=>zvb n R x1 x2 x3 x4 k0) k0
def p169 (L3:zjv):FT169:=fun R a0 k=>
L3 R a0 (0:Int) (List.replicate 32 (0:Int)) (List.replicate 32 (0:Int)) (fun x1 x2=>
k x2)
def F169:FT169:=p169 (zvb FUEL)
abbrev ztj:=(R:Type)→(List Tq3)→(LI→Option R)→Option R
abbrev zot (Z:Type):=(List Tq3)→Int→LI→(List LI)→Z
abbrev zxi (R:Type):=(LI→(List LI)→Option R)→Option R
abbrev zj4:=(R:Type)→zot (zxi R)
def p123_3 (R:Type):zot (zot (Option R)→zxi R):=fun x1 x2 x3 x4 kc k0=>
let v5:=(x1.length:Int);let v6:=decide (x2<v5);(match v6 with
|true=>(match bnd x2 x1.length with
|true=>let v7:=(x1.getD x2.toNat (0,(List.replicate 32 0),false,(List.replicate 32 0),())).2.2.1;(match v7 with
|true=>(match bnd x2 x1.length with
|true=>let v8:=(x1.getD x2.toNat (0,(List.replicate 32 0),false,(List.replicate 32 0),())).2.2.2.1;let v9:=([v8]:(List LI));(match (decide (x4.length+v9.length≤4398046511104)) with
|true=>let v10:=x4++v9;let v11:=IntKind.i64.wrap (x2+1);kc x1 v11 x3 v10
|false=>none)
|false=>none)
|false=>let v12:=IntKind.i64.wrap (x2+1);kc x1 v12 x3 x4)
|false=>none)
|false=>k0 x3 x4)
def zvk:Nat→zj4
 | 0=>fun _ _ _ _ _ _=>none
 | n+1=>fun R x1 x2 x3 x4 k0=>p123_3 R x1 x2 x3 x4 (fun x1 x2 x3 x4=>zvk n R x1 x2 x3 x4 k0) k0
def p123 (F169:FT169) (L3:zj4):ztj:=fun R a0 k=>
L3 R a0 (0:Int) (List.replicate 32 (0:Int)) ([]:(List LI)) (fun x1 x2=>
F169 R x2 fun y3=>
k y3)
def F123:ztj:=p123 F169 (zvk FUEL)
abbrev zl3:=(R:Type)→Tq24→(Bool→Option R)→Option R
def p120 (F123:ztj) (F167:zlq):zl3:=fun R a0 k=>
F167 R a0.2.2.2.1 fun y1=>
(match y1 with
|true=>F123 R a0.2.2.2.1 fun y2=>
let v3:=Kd.eqv (.arr 32 (.int .u8)) a0.2.2.1 y2;k v3
|false=>k false)
def F120:zl3:=p120 F123 F167
abbrev ztg:=(R:Type)→(List Tq3)→Int→(Int→Option R)→Option R
abbrev zob (Z:Type):=(List Tq3)→Int→Int→Z
abbrev zw0 (R:Type):=(Int→Option R)→(Option R)→Option R
abbrev zjw:=(R:Type)→zob (zw0 R)
def p168_2 (R:Type):zob (zob (Option R)→zw0 R):=fun x1 x2 x3 kc k0 k1=>
let v4:=(x1.length:Int);let v5:=decide (x3<v4);(match v5 with
|true=>(match bnd x3 x1.length with
|true=>let v6:=(x1.getD x3.toNat (0,(List.replicate 32 0),false,(List.replicate 32 0),())).1;let v7:=v6==x2;(match v7 with
|true=>k0 x3
|false=>let v8:=IntKind.i64.wrap (x3+1);kc x1 x2 v8)
|false=>none)
|false=>k1)
def zvc:Nat→zjw
 | 0=>fun _ _ _ _ _ _=>none
 | n+1=>fun R x1 x2 x3 k0 k1=>p168_2 R x1 x2 x3 (fun x1 x2 x3=>zvc n R x1 x2 x3 k0 k1) k0 k1
def p168 (L2:zjw):ztg:=fun R a0 a1 k=>
L2 R a0 a1 (0:Int) (fun x1=>
k x1) (k (-1:Int))
def F168:ztg:=p168 (zvc FUEL)
abbrev FT121:=(R:Type)→(List Tq3)→Int→LI→((List Tq3)→Int→Option R)→Option R
abbrev zou (Z:Type):=(List Tq3)→Int→Int→LI→(List Tq3)→Z
abbrev zxj (R:Type):=((List Tq3)→Int→Int→LI→(List Tq3)→Option R)→Option R
abbrev zj5:=(R:Type)→zou (zxj R)
def p121_7 (R:Type):zou (zou (Option R)→zxj R):=fun x1 x2 x3 x4 x5 kc k0=>
let v6:=(x1.length:Int);let v7:=decide (x3<v6);(match v7 with
|true=>(match bnd x3 x1.length with
|true=>let v8:=(x1.getD x3.toNat (0,(List.replicate 32 0),false,(List.replicate 32 0),())).1;let v9:=decide (v8<x2);(match v9 with
|true=>(match bnd x3 x1.length with
|true=>let v10:=x1.getD x3.toNat (0,(List.replicate 32 0),false,(List.replicate 32 0),());let v11:=([v10]:(List Tq3));(match (decide (x5.length+v11.length≤1759218604441)) with
|true=>let v12:=x5++v11;let v13:=IntKind.i64.wrap (x3+1);kc x1 x2 v13 x4 v12
|false=>none)
|false=>none)
|false=>k0 x1 x2 x3 x4 x5)
|false=>none)
|false=>k0 x1 x2 x3 x4 x5)
def zvl:Nat→zj5
 | 0=>fun _ _ _ _ _ _ _=>none
 | n+1=>fun R x1 x2 x3 x4 x5 k0=>p121_7 R x1 x2 x3 x4 x5 (fun x1 x2 x3 x4 x5=>zvl n R x1 x2 x3 x4 x5 k0) k0
def p121 (F167:zlq) (F168:ztg) (L7:zj5):FT121:=fun R a0 a1 a2 k=>
F167 R a0 fun y1=>
(match (!y1) with
|true=>k ([]:(List Tq3)) (1:Int)
|false=>let v2:=decide (a1<0);(match v2 with
|true=>k ([]:(List Tq3)) (1:Int)
|false=>F168 R a0 a1 fun y3=>
let v4:=decide (y3≥0);(match v4 with
|true=>k ([]:(List Tq3)) (6:Int)
|false=>L7 R a0 a1 (0:Int) a2 ([]:(List Tq3)) (fun x5 x6 x7 x8 x9=>
let v10:=([(x6,x8,false,(List.replicate 32 (0:Int)),())]:(List Tq3));(match (decide (x9.length+v10.length≤1759218604441)) with
|true=>let v11:=x9++v10;(match (decide (0≤x7∧x7≤(x5.length:Int)∧(x5.length:Int)≤(x5.length:Int)∧(x5.length:Int)≤(x5.length:Int))) with
|true=>let v12:=List.take (Int.toNat ((x5.length:Int) - x7)) (List.drop x7.toNat x5);(match (decide (v11.length+v12.length≤1759218604441)) with
|true=>let v13:=v11++v12;k v13 (0:Int)
|false=>none)
|false=>none)
|false=>none)))))
def F121:FT121:=p121 F167 F168 (zvl FUEL)
abbrev FT76:=(R:Type)→Tq24→Int→Int→LI→(Tq24→Int→Option R)→Option R
def p76 (F120:zl3) (F121:FT121):FT76:=fun R a0 a1 a2 a3 k=>
F120 R a0 fun y1=>
(match (!y1) with
|true=>k ((0:Int),(List.replicate 32 (0:Int)),(List.replicate 32 (0:Int)),([]:(List Tq3)),()) (1:Int)
|false=>let v2:=a1 !=1;(match v2 with
|true=>k ((0:Int),(List.replicate 32 (0:Int)),(List.replicate 32 (0:Int)),([]:(List Tq3)),()) (7:Int)
|false=>F121 R a0.2.2.2.1 a2 a3 fun y3 y4=>
let v5:=y4 !=0;(match v5 with
|true=>k ((0:Int),(List.replicate 32 (0:Int)),(List.replicate 32 (0:Int)),([]:(List Tq3)),()) y4
|false=>k (a0.1,a0.2.1,a0.2.2.1,y3,a0.2.2.2.2) (0:Int))))
def F76:FT76:=p76 F120 F121
abbrev FT122:=(R:Type)→(List Tq3)→Int→LI→((List Tq3)→Int→Option R)→Option R
def p122 (F23:FT23) (F167:zlq) (F168:ztg):FT122:=fun R a0 a1 a2 k=>
F167 R a0 fun y1=>
(match (!y1) with
|true=>k ([]:(List Tq3)) (1:Int)
|false=>F168 R a0 a1 fun y2=>
let v3:=decide (y2<0);(match v3 with
|true=>k ([]:(List Tq3)) (5:Int)
|false=>(match bnd y2 a0.length with
|true=>let v4:=(a0.getD y2.toNat (0,(List.replicate 32 0),false,(List.replicate 32 0),())).2.2.1;(match v4 with
|true=>k ([]:(List Tq3)) (6:Int)
|false=>F23 R a2 fun y5=>
(match bnd y2 a0.length with
|true=>let v6:=(a0.getD y2.toNat (0,(List.replicate 32 0),false,(List.replicate 32 0),())).2.1;let v7:= !(Kd.eqv (.arr 32 (.int .u8)) y5 v6);(match v7 with
|true=>k ([]:(List Tq3)) (13:Int)
|false=>let v8:=([]:(List Tq3));(match (decide (v8.length+a0.length≤1759218604441)) with
|true=>let v9:=v8++a0;(match bnd y2 v9.length with
|true=>let v10:=v9.set y2.toNat ((v9.getD y2.toNat (0,(List.replicate 32 0),false,(List.replicate 32 0),())).1,(v9.getD y2.toNat (0,(List.replicate 32 0),false,(List.replicate 32 0),())).2.1,true,(v9.getD y2.toNat (0,(List.replicate 32 0),false,(List.replicate 32 0),())).2.2.2);(match bnd y2 v10.length with
|true=>let v11:=v10.set y2.toNat ((v10.getD y2.toNat (0,(List.replicate 32 0),false,(List.replicate 32 0),())).1,(v10.getD y2.toNat (0,(List.replicate 32 0),false,(List.replicate 32 0),())).2.1,(v10.getD y2.toNat (0,(List.replicate 32 0),false,(List.replicate 32 0),())).2.2.1,a2,(v10.getD y2.toNat (0,(List.replicate 32 0),false,(List.replicate 32 0),())).2.2.2.2);k v11 (0:Int)
|false=>none)
|false=>none)
|false=>none))
|false=>none))
|false=>none)))
def F122:FT122:=p122 F23 F167 F168
abbrev FT77:=(R:Type)→Tq24→Int→Int→LI→(Tq24→Int→Option R)→Option R
def p77 (F120:zl3) (F122:FT122) (F123:ztj):FT77:=fun R a0 a1 a2 a3 k=>
F120 R a0 fun y1=>
(match (!y1) with
|true=>k ((0:Int),(List.replicate 32 (0:Int)),(List.replicate 32 (0:Int)),([]:(List Tq3)),()) (1:Int)
|false=>let v2:=a1 !=2;(match v2 with
|true=>k ((0:Int),(List.replicate 32 (0:Int)),(List.replicate 32 (0:Int)),([]:(List Tq3)),()) (7:Int)
|false=>F122 R a0.2.2.2.1 a2 a3 fun y3 y4=>
let v5:=y4 !=0;(match v5 with
|true=>k ((0:Int),(List.replicate 32 (0:Int)),(List.replicate 32 (0:Int)),([]:(List Tq3)),()) y4
|false=>F123 R y3 fun y6=>
k (a0.1,a0.2.1,y6,y3,a0.2.2.2.2) (0:Int))))
def F77:FT77:=p77 F120 F122 F123
abbrev FT36:=(R:Type)→Tq29→Tq13→(Tq29→Tq17→Option R)→Option R
def p36 (F34:FT34) (F74:FT74) (F75:FT75) (F76:FT76) (F77:FT77):FT36:=fun R a0 a1 k=>
F74 R a0 a1.2.1 fun y1=>
(match (!y1) with
|true=>F34 R (5:Int) fun y2=>
k a0 y2
|false=>F75 R a0.1 a0.2.1 fun y3=>
F76 R a0.2.2.2.1 y3 a1.2.1 a1.2.2.2.1 fun y4 y5=>
let v6:=a1.1==5;(match v6 with
|true=>F77 R a0.2.2.2.1 y3 a1.2.1 a1.2.2.2.1 fun y7 y8=>
let v9:=y8 !=0;(match v9 with
|true=>F34 R y8 fun y10=>
k a0 y10
|false=>k (a0.1,a0.2.1,a0.2.2.1,y7,a0.2.2.2.2) ((0:Int),(0:Int),([]:LI),(List.replicate 32 (0:Int)),()))
|false=>let v11:=y5 !=0;(match v11 with
|true=>F34 R y5 fun y12=>
k a0 y12
|false=>k (a0.1,a0.2.1,a0.2.2.1,y4,a0.2.2.2.2) ((0:Int),(0:Int),([]:LI),(List.replicate 32 (0:Int)),()))))
def F36:FT36:=p36 F34 F74 F75 F76 F77
abbrev FT78:=(R:Type)→Tq21→Int→(Int→Bool→Option R)→Option R
def p78 (F75:FT75):FT78:=fun R a0 a1 k=>
F75 R a0 a1 fun y1=>
let v2:=y1==0;(match v2 with
|true=>k (0:Int) false
|false=>let v3:=IntKind.i64.wrap (a0.1 - 1);let v4:=a1==v3;(match v4 with
|true=>k (0:Int) true
|false=>let v5:=IntKind.i64.wrap (a1+1);k v5 false))
def F78:FT78:=p78 F75
abbrev FT124:=(R:Type)→(List Tq3)→(LI→Option R)→Option R
abbrev zos (Z:Type):=(List Tq3)→Int→LI→Z
abbrev zxh (R:Type):=(LI→Option R)→Option R
abbrev zj3:=(R:Type)→zos (zxh R)
def p124_3 (R:Type):zos (zos (Option R)→zxh R):=fun x1 x2 x3 kc k0=>
let v4:=(x1.length:Int);let v5:=decide (x2<v4);(match v5 with
|true=>(match bnd x2 x1.length with
|true=>let v6:=(x1.getD x2.toNat (0,(List.replicate 32 0),false,(List.replicate 32 0),())).2.2.1;(match (!v6) with
|true=>(match bnd x2 x1.length with
|true=>let v7:=(x1.getD x2.toNat (0,(List.replicate 32 0),false,(List.replicate 32 0),())).1;let v8:=([v7]:LI);(match (decide (x3.length+v8.length≤17592186044416)) with
|true=>let v9:=x3++v8;let v10:=IntKind.i64.wrap (x2+1);kc x1 v10 v9
|false=>none)
|false=>none)
|false=>let v11:=IntKind.i64.wrap (x2+1);kc x1 v11 x3)
|false=>none)
|false=>k0 x3)
def zvj:Nat→zj3
 | 0=>fun _ _ _ _ _=>none
 | n+1=>fun R x1 x2 x3 k0=>p124_3 R x1 x2 x3 (fun x1 x2 x3=>zvj n R x1 x2 x3 k0) k0
def p124 (L3:zj3):FT124:=fun R a0 k=>
L3 R a0 (0:Int) ([]:LI) (fun x1=>
k x1)
def F124:FT124:=p124 (zvj FUEL)
abbrev FT79:=(R:Type)→Tq24→(Tq24→Tq37→LI→Int→Option R)→Option R
def p79 (F24:FT24) (F120:zl3) (F124:FT124):FT79:=fun R a0 k=>
F120 R a0 fun y1=>
(match (!y1) with
|true=>k ((0:Int),(List.replicate 32 (0:Int)),(List.replicate 32 (0:Int)),([]:(List Tq3)),()) ((0:Int),(List.replicate 32 (0:Int)),(List.replicate 32 (0:Int)),(List.replicate 32 (0:Int)),()) ([]:LI) (1:Int)
|false=>let v2:=a0.1==18446744073709551615;(match v2 with
|true=>k ((0:Int),(List.replicate 32 (0:Int)),(List.replicate 32 (0:Int)),([]:(List Tq3)),()) ((0:Int),(List.replicate 32 (0:Int)),(List.replicate 32 (0:Int)),(List.replicate 32 (0:Int)),()) ([]:LI) (3:Int)
|false=>F24 R a0.2.1 a0.1 a0.2.2.1 fun y3=>
let v4:=IntKind.u64.wrap (a0.1+1);F124 R a0.2.2.2.1 fun y5=>
k (v4,y3,(List.replicate 32 (0:Int)),([]:(List Tq3)),()) (a0.1,a0.2.1,a0.2.2.1,y3,()) y5 (0:Int)))
def F79:FT79:=p79 F24 F120 F124
abbrev FT80:=(R:Type)→(List Tq5)→((List Tq5)→Option R)→Option R
abbrev D80_3 (Z:Type):=(List Tq5)→Int→(List Tq5)→Z
abbrev E80_3 (R:Type):=((List Tq5)→Option R)→Option R
abbrev zuj:=(R:Type)→D80_3 (E80_3 R)
def p80_3 (R:Type):D80_3 (D80_3 (Option R)→E80_3 R):=fun x1 x2 x3 kc k0=>
let v4:=(x1.length:Int);let v5:=decide (x2<v4);(match v5 with
|true=>(match bnd x2 x1.length with
|true=>let v6:=(x1.getD x2.toNat ((List.replicate 32 0),0,0,())).1;(match bnd x2 x1.length with
|true=>let v7:=(x1.getD x2.toNat ((List.replicate 32 0),0,0,())).2.2.1;(match bnd x2 x1.length with
|true=>let v8:=(x1.getD x2.toNat ((List.replicate 32 0),0,0,())).2.2.1;let v9:=([(v6,v7,v8,())]:(List Tq5));(match (decide (x3.length+v9.length≤2932031007402)) with
|true=>let v10:=x3++v9;let v11:=IntKind.i64.wrap (x2+1);kc x1 v11 v10
|false=>none)
|false=>none)
|false=>none)
|false=>none)
|false=>k0 x3)
def G80_3:Nat→zuj
 | 0=>fun _ _ _ _ _=>none
 | n+1=>fun R x1 x2 x3 k0=>p80_3 R x1 x2 x3 (fun x1 x2 x3=>G80_3 n R x1 x2 x3 k0) k0
def p80 (L3:zuj):FT80:=fun R a0 k=>
L3 R a0 (0:Int) ([]:(List Tq5)) (fun x1=>
k x1)
def F80:FT80:=p80 (G80_3 FUEL)
abbrev FT42:=(R:Type)→Int→Int→(Bool→Option R)→Option R
def p42:FT42:=fun R a0 a1 k=>
let v1:=decide (a0≥0);(match v1 with
|true=>let v2:=decide (a0<1024);(match v2 with
|true=>let v3:=decide (a1≥1);(match v3 with
|true=>let v4:=decide (a1≤64);k v4
|false=>k false)
|false=>k false)
|false=>k false)
def F42:FT42:=p42
abbrev FT130:=(R:Type)→Int→(Int→Option R)→Option R
abbrev zoo (Z:Type):=Int→Int→Z
abbrev zxd (R:Type):=(Int→Option R)→Option R
abbrev zj0:=(R:Type)→zoo (zxd R)
def p130_2 (R:Type):zoo (zoo (Option R)→zxd R):=fun x1 x2 kc k0=>
let v3:=Int.tmod x1 (2:Int);let v4:=v3==0;(match v4 with
|true=>let v5:=IntKind.i64.wrap (Int.tdiv x1 (2:Int));let v6:=IntKind.i64.wrap ((2:Int)*x2);kc v5 v6
|false=>k0 x2)
def zvg:Nat→zj0
 | 0=>fun _ _ _ _=>none
 | n+1=>fun R x1 x2 k0=>p130_2 R x1 x2 (fun x1 x2=>zvg n R x1 x2 k0) k0
def p130 (L2:zj0):FT130:=fun R a0 k=>
L2 R a0 (1:Int) (fun x1=>
k x1)
def F130:FT130:=p130 (zvg FUEL)
abbrev FT129:=(R:Type)→LI→Int→Int→(Int→Option R)→Option R
abbrev zop (Z:Type):=LI→Int→Int→Int→Z
abbrev zxe (R:Type):=(Int→Option R)→Option R
abbrev zj1:=(R:Type)→zop (zxe R)
def p129_3 (R:Type):zop (zop (Option R)→zxe R):=fun x1 x2 x3 x4 kc k0=>
let v5:=decide (x4<x2);(match v5 with
|true=>(match bnd x4 x1.length with
|true=>let v6:=x1.getD x4.toNat 0;let v7:=IntKind.u64.wrap (x3+v6);let v8:=IntKind.i64.wrap (x4+1);kc x1 x2 v7 v8
|false=>none)
|false=>k0 x3)
def zvh:Nat→zj1
 | 0=>fun _ _ _ _ _ _=>none
 | n+1=>fun R x1 x2 x3 x4 k0=>p129_3 R x1 x2 x3 x4 (fun x1 x2 x3 x4=>zvh n R x1 x2 x3 x4 k0) k0
def p129 (L3:zj1):FT129:=fun R a0 a1 a2 k=>
L3 R a0 a2 (0:Int) a1 (fun x1=>
k x1)
def F129:FT129:=p129 (zvh FUEL)
abbrev FT87:=(R:Type)→LI→((LI×Unit)→Option R)→Option R
abbrev D87_3 (Z:Type):=LI→Int→(LI×Unit)→LI→Unit→Z
abbrev E87_3 (R:Type):=((LI×Unit)→LI→Unit→Option R)→Option R
abbrev zug:=(R:Type)→D87_3 (E87_3 R)
def p87_3 (F129:FT129) (F130:FT130) (R:Type):D87_3 (D87_3 (Option R)→E87_3 R):=fun x1 x2 x3 x4 x5 kc k0=>
let v6:=(x1.length:Int);let v7:=decide (x2<v6);(match v7 with
|true=>let v8:=IntKind.i64.wrap (x2+1);let v9:=IntKind.i64.wrap (x2+1);F130 R v9 fun y10=>
let v11:=IntKind.i64.wrap (v8 - y10);let v12:=IntKind.i64.wrap (x2+1);F129 R x1 v11 v12 fun y13=>
let v14:=([y13]:LI);(match (decide (x4.length+v14.length≤17592186044416)) with
|true=>let v15:=x4++v14;let v16:=IntKind.i64.wrap (x2+1);kc x1 v16 x3 v15 ()
|false=>none)
|false=>k0 x3 x4 ())
def G87_3:Nat→zug
 | 0=>fun _ _ _ _ _ _ _=>none
 | n+1=>fun R x1 x2 x3 x4 x5 k0=>p87_3 F129 F130 R x1 x2 x3 x4 x5 (fun x1 x2 x3 x4 x5=>G87_3 n R x1 x2 x3 x4 x5 k0) k0
def p87 (L3:zug):FT87:=fun R a0 k=>
L3 R a0 (0:Int) (([]:LI),()) ([]:LI) () (fun x1 x2 x3=>
k (x2,()))
def F87:FT87:=p87 (G87_3 FUEL)
abbrev FT43:=(R:Type)→LI→((LI×Unit)→Int→Option R)→Option R
def p43 (F86:FT86) (F87:FT87):FT43:=fun R a0 k=>
let v1:=(a0.length:Int);let v2:=decide (v1>1048576);(match v2 with
|true=>k (([]:LI),()) (14:Int)
|false=>F86 R a0 fun y3 y4=>
(match (!y4) with
|true=>k (([]:LI),()) (11:Int)
|false=>F87 R a0 fun y5=>
k y5 (0:Int)))
def F43:FT43:=p43 F86 F87
abbrev FT133:=(R:Type)→Int→Int→(Int→Option R)→Option R
def p133:FT133:=fun R a0 a1 k=>
let v1:=IntKind.u64.wrap a0;let v2:=IntKind.u64.wrap (v1*4294967296);let v3:=IntKind.u64.wrap a1;let v4:=IntKind.u64.wrap (v2+v3);k v4
def F133:FT133:=p133
abbrev FT89:=(R:Type)→LI→Int→Int→(Tq40→Option R)→Option R
def p89 (F133:FT133):FT89:=fun R a0 a1 a2 k=>
let v1:=IntKind.u32.wrap a2;F133 R a1 v1 fun y2=>
k ((2:Int),([]:LI),(0:Int),a0,y2,(0:Int),())
def F89:FT89:=p89 F133
abbrev zej:=(R:Type)→Tq40→(Bool→Option R)→Option R
def p172:zej:=fun R a0 k=>
let v1:=a0.1==1;(match v1 with
|true=>let v2:=(a0.2.1.length:Int);let v3:=IntKind.u64.wrap v2;let v4:=IntKind.u64.wrap ((8:Int)*v3);let v5:=decide (a0.2.2.1≤v4);(match v5 with
|true=>let v6:=decide (a0.2.2.2.2.2.1≤a0.2.2.1);k v6
|false=>k false)
|false=>let v7:=a0.1==2;(match v7 with
|true=>let v8:=decide (a0.2.2.2.2.2.1≤4611686018427387904);k v8
|false=>k false))
def F172:zej:=p172
abbrev FT215:=(R:Type)→Int→(Int→Option R)→Option R
abbrev znw (Z:Type):=Int→Int→Z
abbrev zwl (R:Type):=(Int→Option R)→Option R
abbrev zjr:=(R:Type)→znw (zwl R)
def p215_2 (R:Type):znw (znw (Option R)→zwl R):=fun x1 x2 kc k0=>
let v3:=decide (x1>0);(match v3 with
|true=>let v4:=IntKind.u64.wrap (Int.tdiv x1 (2:Int));let v5:=IntKind.i64.wrap (x2+1);kc v4 v5
|false=>k0 x2)
def zu6:Nat→zjr
 | 0=>fun _ _ _ _=>none
 | n+1=>fun R x1 x2 k0=>p215_2 R x1 x2 (fun x1 x2=>zu6 n R x1 x2 k0) k0
def p215 (L2:zjr):FT215:=fun R a0 k=>
L2 R a0 (0:Int) (fun x1=>
k x1)
def F215:FT215:=p215 (zu6 FUEL)
abbrev FT174:=(R:Type)→Int→(Int→Option R)→Option R
def p174 (F215:FT215):FT174:=fun R a0 k=>
let v1:=a0==0;(match v1 with
|true=>k (0:Int)
|false=>let v2:=IntKind.u64.wrap (a0 - 1);F215 R v2 fun y3=>
k y3)
def F174:FT174:=p174 F215
abbrev FT213:=(R:Type)→Tq40→(Int→Option R)→Option R
def p213 (F172:zej):FT213:=fun R a0 k=>
F172 R a0 fun y1=>
(match (!y1) with
|true=>k (0:Int)
|false=>let v2:=a0.1==1;(match v2 with
|true=>let v3:=IntKind.u64.wrap (a0.2.2.1 - a0.2.2.2.2.2.1);k v3
|false=>let v4:=IntKind.u64.wrap ((4611686018427387904:Int) - a0.2.2.2.2.2.1);k v4))
def F213:FT213:=p213 F172
abbrev FT268:=(R:Type)→LI→Int→Int→(LI→Option R)→Option R
abbrev zni (Z:Type):=Int→Int→Int→LI→LI→LI→Z
abbrev zv7 (R:Type):=(Int→Int→LI→LI→Option R)→Option R
abbrev zjq:=(R:Type)→zni (zv7 R)
abbrev znh (Z:Type):=Int→LI→LI→LI→LI→Z
abbrev zv6 (R:Type):=(LI→LI→LI→Option R)→Option R
abbrev zjp:=(R:Type)→znh (zv6 R)
abbrev zaq (Z:Type):=Int→LI→LI→LI→Z
abbrev zm5 (R:Type):=(LI→LI→Option R)→Option R
abbrev zck:=(R:Type)→zaq (zm5 R)
def p268_3 (R:Type):zni (zni (Option R)→zv7 R):=fun x1 x2 x3 x4 x5 x6 kc k0=>
let v7:=decide (x3<32);(match v7 with
|true=>(match (bnd x3 (32:Int)) with
|true=>let v8:=x4.getD x3.toNat 0;let v9:=([v8]:LI);(match (decide (x6.length+v9.length≤140737488355328)) with
|true=>let v10:=x6++v9;let v11:=IntKind.i64.wrap (x3+1);kc x1 x2 v11 x4 x5 v10
|false=>none)
|false=>none)
|false=>k0 x1 x2 x5 x6)
def zu4:Nat→zjq
 | 0=>fun _ _ _ _ _ _ _ _=>none
 | n+1=>fun R x1 x2 x3 x4 x5 x6 k0=>p268_3 R x1 x2 x3 x4 x5 x6 (fun x1 x2 x3 x4 x5 x6=>zu4 n R x1 x2 x3 x4 x5 x6 k0) k0
def p268_8 (R:Type):znh (znh (Option R)→zv6 R):=fun x1 x2 x3 x4 x5 kc k0=>
let v6:=decide (x1<8);(match v6 with
|true=>(match (bnd x1 (8:Int)) with
|true=>let v7:=x4.getD x1.toNat 0;let v8:=([v7]:LI);(match (decide (x3.length+v8.length≤140737488355328)) with
|true=>let v9:=x3++v8;let v10:=IntKind.i64.wrap (x1+1);kc v10 x2 v9 x4 x5
|false=>none)
|false=>none)
|false=>k0 x2 x3 x5)
def zu3:Nat→zjp
 | 0=>fun _ _ _ _ _ _ _=>none
 | n+1=>fun R x1 x2 x3 x4 x5 k0=>p268_8 R x1 x2 x3 x4 x5 (fun x1 x2 x3 x4 x5=>zu3 n R x1 x2 x3 x4 x5 k0) k0
def zyt (R:Type):zaq (zaq (Option R)→zm5 R):=fun x1 x2 x3 x4 kc k0=>
let v5:=decide (x1<8);(match v5 with
|true=>(match (bnd x1 (8:Int)) with
|true=>let v6:=x4.getD x1.toNat 0;let v7:=([v6]:LI);(match (decide (x3.length+v7.length≤140737488355328)) with
|true=>let v8:=x3++v7;let v9:=IntKind.i64.wrap (x1+1);kc v9 x2 v8 x4
|false=>none)
|false=>none)
|false=>k0 x2 x3)
def zkd:Nat→zck
 | 0=>fun _ _ _ _ _ _=>none
 | n+1=>fun R x1 x2 x3 x4 k0=>zyt R x1 x2 x3 x4 (fun x1 x2 x3 x4=>zkd n R x1 x2 x3 x4 k0) k0
def p268 (F45:FT45) (F47:FT47) (L3:zjq) (L8:zjp) (L12:zck):FT268:=fun R a0 a1 a2 k=>
L3 R a1 a2 (0:Int) a0 (List.replicate 32 (0:Int)) ([]:LI) (fun x1 x2 x3 x4=>
F47 R x1 fun y5=>
F47 R x2 fun y6=>
L8 R (0:Int) x3 x4 y5 y6 (fun x7 x8 x9=>
L12 R (0:Int) x7 x8 x9 (fun x10 x11=>
F45 R x11 fun y12=>
k y12)))
def F268:FT268:=p268 F45 F47 (zu4 FUEL) (zu3 FUEL) (zkd FUEL)
abbrev FT269:=(R:Type)→Int→(Int→Option R)→Option R
abbrev zng (Z:Type):=Int→Int→Int→Z
abbrev zv5 (R:Type):=(Int→Option R)→Option R
abbrev zjo:=(R:Type)→zng (zv5 R)
def p269_3 (R:Type):zng (zng (Option R)→zv5 R):=fun x1 x2 x3 kc k0=>
let v4:=decide (x3<x1);(match v4 with
|true=>let v5:=IntKind.u64.wrap ((2:Int)*x2);let v6:=IntKind.u64.wrap (x3+1);kc x1 v5 v6
|false=>k0 x2)
def zu2:Nat→zjo
 | 0=>fun _ _ _ _ _=>none
 | n+1=>fun R x1 x2 x3 k0=>p269_3 R x1 x2 x3 (fun x1 x2 x3=>zu2 n R x1 x2 x3 k0) k0
def p269 (L3:zjo):FT269:=fun R a0 k=>
L3 R a0 (1:Int) (0:Int) (fun x1=>
k x1)
def F269:FT269:=p269 (zu2 FUEL)
end Go.PG
set_option maxRecDepth 100000
namespace Go.PG
open Go.Proofs
abbrev FT246:=(R:Type)→LI→Int→Int→(Int→Option R)→Option R
def p246 (F268:FT268) (F269:FT269):FT246:=fun R a0 a1 a2 k=>
let v1:=IntKind.u64.wrap (Int.tdiv a2 (256:Int));F268 R a0 a1 v1 fun y2=>
let v3:=Int.tmod a2 (256:Int);let v4:=IntKind.u64.wrap (Int.tdiv v3 (8:Int));(match (bnd v4 (32:Int)) with
|true=>let v5:=y2.getD v4.toNat 0;let v6:=IntKind.u64.wrap v5;let v7:=Int.tmod a2 (8:Int);let v8:=IntKind.u64.wrap ((7:Int) - v7);F269 R v8 fun y9=>
(match (!(y9==0)) with
|true=>let v10:=IntKind.u64.wrap (Int.tdiv v6 y9);let v11:=Int.tmod v10 (2:Int);k v11
|false=>none)
|false=>none)
def F246:FT246:=p246 F268 F269
abbrev FT214:=(R:Type)→Tq40→Int→(Int→Option R)→Option R
def p214 (F246:FT246) (F247:Vp):FT214:=fun R a0 a1 k=>
let v1:=a0.1==2;(match v1 with
|true=>F246 R a0.2.2.2.1 a0.2.2.2.2.1 a1 fun y2=>
k y2
|false=>let v3:=IntKind.u64.wrap (Int.tdiv a1 (8:Int));(match bnd v3 a0.2.1.length with
|true=>let v4:=a0.2.1.getD v3.toNat 0;let v5:=IntKind.u32.wrap v4;let v6:=Int.tmod a1 (8:Int);let v7:=IntKind.i64.wrap v6;let v8:=IntKind.i64.wrap ((7:Int) - v7);F247 R v5 v8 fun y9=>
let v10:=Int.tmod y9 (2:Int);let v11:=IntKind.u64.wrap v10;k v11
|false=>none))
def F214:FT214:=p214 F246 F247
abbrev FT173:=(R:Type)→Tq40→Int→(Int→Tq40→Int→Option R)→Option R
abbrev zn8 (Z:Type):=Int→Int→Int→Tq40→Tq40→Z
abbrev zwx (R:Type):=(Int→Tq40→Tq40→Option R)→Option R
abbrev zjt:=(R:Type)→zn8 (zwx R)
def p173_7 (F214:FT214) (R:Type):zn8 (zn8 (Option R)→zwx R):=fun x1 x2 x3 x4 x5 kc k0=>
let v6:=decide (x3<x1);(match v6 with
|true=>let v7:=IntKind.u64.wrap ((2:Int)*x2);F214 R x4 x4.2.2.2.2.2.1 fun y8=>
let v9:=IntKind.u64.wrap (v7+y8);let v10:=IntKind.u64.wrap (x4.2.2.2.2.2.1+1);let v11:=IntKind.i64.wrap (x3+1);kc x1 v9 v11 (x4.1,x4.2.1,x4.2.2.1,x4.2.2.2.1,x4.2.2.2.2.1,v10,x4.2.2.2.2.2.2) x5
|false=>k0 x2 x4 x5)
def zu9:Nat→zjt
 | 0=>fun _ _ _ _ _ _ _=>none
 | n+1=>fun R x1 x2 x3 x4 x5 k0=>p173_7 F214 R x1 x2 x3 x4 x5 (fun x1 x2 x3 x4 x5=>zu9 n R x1 x2 x3 x4 x5 k0) k0
def p173 (F172:zej) (F213:FT213) (L7:zjt):FT173:=fun R a0 a1 k=>
F172 R a0 fun y1=>
(match (!y1) with
|true=>k (0:Int) a0 (1:Int)
|false=>let v2:=decide (a1<0);(match v2 with
|true=>k (0:Int) a0 (1:Int)
|false=>let v3:=decide (a1>64);(match v3 with
|true=>k (0:Int) a0 (1:Int)
|false=>let v4:=IntKind.u64.wrap a1;F213 R a0 fun y5=>
let v6:=decide (v4>y5);(match v6 with
|true=>k (0:Int) a0 (8:Int)
|false=>L7 R a1 (0:Int) (0:Int) a0 ((0:Int),([]:LI),(0:Int),(List.replicate 32 (0:Int)),(0:Int),(0:Int),()) (fun x7 x8 x9=>
k x7 x8 (0:Int))))))
def F173:FT173:=p173 F172 F213 (zu9 FUEL)
abbrev zl1:=(R:Type)→Tq40→Int→Int→(Int→Tq40→Int→Option R)→Option R
abbrev zon (Z:Type):=Int→Int→Int→Tq40→Tq40→Z
abbrev zxc (R:Type):=(Int→Int→Tq40→Option R)→(Tq40→Tq40→Option R)→Option R
abbrev zjz:=(R:Type)→zon (zxc R)
def p131_4 (F173:FT173) (F174:FT174) (R:Type):zon (zon (Option R)→zxc R):=fun x1 x2 x3 x4 x5 kc k0 k1=>
let v6:=decide (x3<x2);(match v6 with
|true=>F174 R x1 fun y7=>
F173 R x4 y7 fun y8 y9 y10=>
let v11:=y10 !=0;(match v11 with
|true=>k0 (0:Int) y10 x4
|false=>let v12:=decide (y8<x1);(match v12 with
|true=>k0 y8 (0:Int) y9
|false=>let v13:=IntKind.i64.wrap (x3+1);kc x1 x2 v13 y9 x5))
|false=>k1 x4 x5)
def zvf:Nat→zjz
 | 0=>fun _ _ _ _ _ _ _ _=>none
 | n+1=>fun R x1 x2 x3 x4 x5 k0 k1=>p131_4 F173 F174 R x1 x2 x3 x4 x5 (fun x1 x2 x3 x4 x5=>zvf n R x1 x2 x3 x4 x5 k0 k1) k0 k1
def p131 (F172:zej) (L4:zjz):zl1:=fun R a0 a1 a2 k=>
F172 R a0 fun y1=>
(match (!y1) with
|true=>k (0:Int) a0 (1:Int)
|false=>let v2:=decide (a1<1);(match v2 with
|true=>k (0:Int) a0 (1:Int)
|false=>let v3:=decide (a1≥9223372036854775808);(match v3 with
|true=>k (0:Int) a0 (1:Int)
|false=>let v4:=decide (a2<1);(match v4 with
|true=>k (0:Int) a0 (1:Int)
|false=>let v5:=decide (a2>64);(match v5 with
|true=>k (0:Int) a0 (1:Int)
|false=>L4 R a1 a2 (0:Int) a0 ((0:Int),([]:LI),(0:Int),(List.replicate 32 (0:Int)),(0:Int),(0:Int),()) (fun x6 x7 x8=>
k x6 x8 x7) (fun x9 x10=>
k (0:Int) x9 (9:Int)))))))
def F131:zl1:=p131 F172 (zvf FUEL)
abbrev zti:=(R:Type)→LI→Int→(Int→Int→Option R)→Option R
abbrev zom (Z:Type):=LI→Int→Int→Z
abbrev zxb (R:Type):=(Int→Int→Option R)→(Option R)→Option R
abbrev zjy:=(R:Type)→zom (zxb R)
def p132_2 (R:Type):zom (zom (Option R)→zxb R):=fun x1 x2 x3 kc k0 k1=>
let v4:=(x1.length:Int);let v5:=decide (x3<v4);(match v5 with
|true=>(match bnd x3 x1.length with
|true=>let v6:=x1.getD x3.toNat 0;let v7:=decide (x2<v6);(match v7 with
|true=>k0 x3 (0:Int)
|false=>(match bnd x3 x1.length with
|true=>let v8:=x1.getD x3.toNat 0;let v9:=IntKind.u64.wrap (x2 - v8);let v10:=IntKind.i64.wrap (x3+1);kc x1 v9 v10
|false=>none))
|false=>none)
|false=>k1)
def zve:Nat→zjy
 | 0=>fun _ _ _ _ _ _=>none
 | n+1=>fun R x1 x2 x3 k0 k1=>p132_2 R x1 x2 x3 (fun x1 x2 x3=>zve n R x1 x2 x3 k0 k1) k0 k1
def p132 (L2:zjy):zti:=fun R a0 a1 k=>
L2 R a0 a1 (0:Int) (fun x1 x2=>
k x1 x2) (k (0:Int) (3:Int))
def F132:zti:=p132 (zve FUEL)
abbrev FT88:=(R:Type)→LI→Tq40→Int→(Int→Tq40→Int→Option R)→Option R
def p88 (F86:FT86) (F131:zl1) (F132:zti):FT88:=fun R a0 a1 a2 k=>
F86 R a0 fun y1 y2=>
(match (!y2) with
|true=>k (0:Int) a1 (11:Int)
|false=>let v3:=y1==0;(match v3 with
|true=>k (0:Int) a1 (10:Int)
|false=>F131 R a1 y1 a2 fun y4 y5 y6=>
let v7:=y6 !=0;(match v7 with
|true=>k (0:Int) y5 y6
|false=>F132 R a0 y4 fun y8 y9=>
k y8 y5 (0:Int))))
def F88:FT88:=p88 F86 F131 F132
abbrev FT44:=(R:Type)→LI→Int→Int→LI→(Int→Int→Option R)→Option R
def p44 (F42:FT42) (F43:FT43) (F88:FT88) (F89:FT89):FT44:=fun R a0 a1 a2 a3 k=>
F42 R a1 a2 fun y1=>
(match (!y1) with
|true=>k (0:Int) (1:Int)
|false=>F43 R a3 fun y2 y3=>
let v4:=y3 !=0;(match v4 with
|true=>k (0:Int) y3
|false=>F89 R a0 (1:Int) a1 fun y5=>
F88 R a3 y5 a2 fun y6 y7 y8=>
k y6 y8))
def F44:FT44:=p44 F42 F43 F88 F89
abbrev FT21:=(R:Type)→LI→Int→Int→LI→(LI→Int→Option R)→Option R
def en21 (F:FT21):Ent:=eV 21 [(.arr 32 (.int .u8)),(.int .i64),(.int .i64),(.sl (.int .u64))] [(.sl (.int .i64)),(.int .i64)] F
abbrev D21_8 (Z:Type):=Int→Int→LI→Int→LI→LI→Z
abbrev E21_8 (R:Type):=(LI→Option R)→Option R
abbrev zuo:=(R:Type)→D21_8 (E21_8 R)
def p21_8 (F44:FT44) (R:Type):D21_8 (D21_8 (Option R)→E21_8 R):=fun x1 x2 x3 x4 x5 x6 kc k0=>
let v7:=decide (x4<x1);(match v7 with
|true=>F44 R x5 x4 x2 x3 fun y8 y9=>
let v10:=y9 !=0;(match v10 with
|true=>let v11:=([(-1:Int)]:LI);(match (decide (x6.length+v11.length≤17592186044416)) with
|true=>let v12:=x6++v11;let v13:=IntKind.i64.wrap (x4+1);kc x1 x2 x3 v13 x5 v12
|false=>none)
|false=>let v14:=([y8]:LI);(match (decide (x6.length+v14.length≤17592186044416)) with
|true=>let v15:=x6++v14;let v16:=IntKind.i64.wrap (x4+1);kc x1 x2 x3 v16 x5 v15
|false=>none))
|false=>k0 x6)
def G21_8:Nat→zuo
 | 0=>fun _ _ _ _ _ _ _ _=>none
 | n+1=>fun R x1 x2 x3 x4 x5 x6 k0=>p21_8 F44 R x1 x2 x3 x4 x5 x6 (fun x1 x2 x3 x4 x5 x6=>G21_8 n R x1 x2 x3 x4 x5 x6 k0) k0
def p21 (F42:FT42) (F43:FT43) (L8:zuo):FT21:=fun R a0 a1 a2 a3 k=>
let v1:=decide (a1<1);(match v1 with
|true=>k ([]:LI) (1:Int)
|false=>let v2:=IntKind.i64.wrap (a1 - 1);F42 R v2 a2 fun y3=>
(match (!y3) with
|true=>k ([]:LI) (1:Int)
|false=>F43 R a3 fun y4 y5=>
let v6:=y5 !=0;(match v6 with
|true=>k ([]:LI) y5
|false=>L8 R a1 a2 a3 (0:Int) a0 ([]:LI) (fun x7=>
k x7 (0:Int)))))
def F21:FT21:=p21 F42 F43 (G21_8 FUEL)
abbrev FT37:=(R:Type)→Tq29→(Tq29→Tq17→Option R)→Option R
def p37 (F21:FT21) (F22:FT22) (F34:FT34) (F78:FT78) (F79:FT79) (F80:FT80):FT37:=fun R a0 k=>
F78 R a0.1 a0.2.1 fun y1 y2=>
(match (!y2) with
|true=>let v3:=IntKind.u64.wrap y1;k (a0.1,y1,a0.2.2) ((0:Int),v3,([]:LI),(List.replicate 32 (0:Int)),())
|false=>F79 R a0.2.2.2.1 fun y4 y5 y6 y7=>
let v8:=y7 !=0;(match v8 with
|true=>F34 R y7 fun y9=>
k a0 y9
|false=>F80 R a0.2.2.1 fun y10=>
F22 R y10 fun y11=>
F21 R y4.2.1 a0.1.1 a0.1.2.2.2.1 y11 fun y12 y13=>
let v14:=IntKind.u64.wrap y1;k (a0.1,y1,y10,y4,y12,y6,a0.2.2.2.2.2.2) ((0:Int),v14,y6,y5.2.2.2.1,())))
def F37:FT37:=p37 F21 F22 F34 F78 F79 F80
abbrev FT81:=(R:Type)→LI→(Int→Option R)→Option R
abbrev D81_3 (Z:Type):=LI→Int→Int→Z
abbrev E81_3 (R:Type):=(Int→Option R)→Option R
abbrev zui:=(R:Type)→D81_3 (E81_3 R)
def p81_3 (R:Type):D81_3 (D81_3 (Option R)→E81_3 R):=fun x1 x2 x3 kc k0=>
let v4:=(x1.length:Int);let v5:=decide (x3<v4);(match v5 with
|true=>(match bnd x3 x1.length with
|true=>let v6:=x1.getD x3.toNat 0;let v7:=decide (v6>0);(match v7 with
|true=>let v8:=IntKind.i64.wrap (x2+1);let v9:=IntKind.i64.wrap (x3+1);kc x1 v8 v9
|false=>let v10:=IntKind.i64.wrap (x3+1);kc x1 x2 v10)
|false=>none)
|false=>k0 x2)
def G81_3:Nat→zui
 | 0=>fun _ _ _ _ _=>none
 | n+1=>fun R x1 x2 x3 k0=>p81_3 R x1 x2 x3 (fun x1 x2 x3=>G81_3 n R x1 x2 x3 k0) k0
def p81 (L3:zui):FT81:=fun R a0 k=>
L3 R a0 (0:Int) (0:Int) (fun x1=>
k x1)
def F81:FT81:=p81 (G81_3 FUEL)
abbrev zte:=(R:Type)→Int→Int→(Int→Bool→Option R)→Option R
def p209:zte:=fun R a0 a1 k=>
let v1:=a0==0;(match v1 with
|true=>k (0:Int) true
|false=>let v2:=a1==0;(match v2 with
|true=>k (0:Int) true
|false=>(match (!(a1==0)) with
|true=>let v3:=IntKind.u64.wrap (Int.tdiv (9223372036854775807:Int) a1);let v4:=decide (a0>v3);(match v4 with
|true=>k (0:Int) false
|false=>let v5:=IntKind.u64.wrap (a0*a1);k v5 true)
|false=>none)))
def F209:zte:=p209
abbrev FT170:=(R:Type)→LI→(Tq44→Int→Option R)→Option R
abbrev zat (Z:Type):=LI→Int→Int→Int→Tq44→LI→(List Tq7)→LI→LI→Z
abbrev zm8 (R:Type):=(Int→Tq44→LI→(List Tq7)→LI→LI→Option R)→Option R
abbrev zcm:=(R:Type)→zat (zm8 R)
abbrev zas (Z:Type):=Int→Tq44→LI→(List Tq7)→LI→LI→Z
abbrev zm7 (R:Type):=(Int→Tq44→(List Tq7)→Option R)→Option R
abbrev zcl:=(R:Type)→zas (zm7 R)
def zyy (R:Type):zat (zat (Option R)→zm8 R):=fun x1 x2 x3 x4 x5 x6 x7 x8 x9 kc k0=>
let v10:=(x1.length:Int);let v11:=decide (x4<v10);(match v11 with
|true=>(match bnd x4 x1.length with
|true=>let v12:=x1.getD x4.toNat 0;let v13:=IntKind.u64.wrap (x3*v12);(match bnd x4 x6.length with
|true=>let v14:=x6.set x4.toNat v13;(match bnd x4 x7.length with
|true=>let v15:=x7.set x4.toNat (x2,x4,());(match bnd x4 v14.length with
|true=>let v16:=v14.getD x4.toNat 0;let v17:=decide (v16<x2);(match v17 with
|true=>let v18:=([x4]:LI);(match (decide (x8.length+v18.length≤17592186044416)) with
|true=>let v19:=x8++v18;let v20:=IntKind.i64.wrap (x4+1);kc x1 x2 x3 v20 x5 v14 v15 v19 x9
|false=>none)
|false=>let v21:=([x4]:LI);(match (decide (x9.length+v21.length≤17592186044416)) with
|true=>let v22:=x9++v21;let v23:=IntKind.i64.wrap (x4+1);kc x1 x2 x3 v23 x5 v14 v15 x8 v22
|false=>none))
|false=>none)
|false=>none)
|false=>none)
|false=>none)
|false=>k0 x2 x5 x6 x7 x8 x9)
def zkq:Nat→zcm
 | 0=>fun _ _ _ _ _ _ _ _ _ _ _=>none
 | n+1=>fun R x1 x2 x3 x4 x5 x6 x7 x8 x9 k0=>zyy R x1 x2 x3 x4 x5 x6 x7 x8 x9 (fun x1 x2 x3 x4 x5 x6 x7 x8 x9=>zkq n R x1 x2 x3 x4 x5 x6 x7 x8 x9 k0) k0
def zyx (R:Type):zas (zas (Option R)→zm7 R):=fun x1 x2 x3 x4 x5 x6 kc k0=>
let v7:=(x5.length:Int);let v8:=decide (v7>0);(match v8 with
|true=>let v9:=(x6.length:Int);let v10:=decide (v9>0);(match v10 with
|true=>let v11:=(x5.length:Int);let v12:=IntKind.i64.wrap (v11 - 1);(match bnd v12 x5.length with
|true=>let v13:=x5.getD v12.toNat 0;let v14:=(x6.length:Int);let v15:=IntKind.i64.wrap (v14 - 1);(match bnd v15 x6.length with
|true=>let v16:=x6.getD v15.toNat 0;let v17:=(x5.length:Int);let v18:=IntKind.i64.wrap (v17 - 1);(match (decide (0≤v18∧v18≤(x5.length:Int))) with
|true=>let v19:=List.take v18.toNat x5;let v20:=(x6.length:Int);let v21:=IntKind.i64.wrap (v20 - 1);(match (decide (0≤v21∧v21≤(x6.length:Int))) with
|true=>let v22:=List.take v21.toNat x6;(match bnd v13 x3.length with
|true=>let v23:=x3.getD v13.toNat 0;(match bnd v13 x4.length with
|true=>let v24:=x4.set v13.toNat (v23,v16,());(match bnd v16 x3.length with
|true=>let v25:=x3.getD v16.toNat 0;(match bnd v13 x3.length with
|true=>let v26:=x3.getD v13.toNat 0;let v27:=IntKind.u64.wrap (x1 - v26);let v28:=IntKind.u64.wrap (v25 - v27);(match bnd v16 x3.length with
|true=>let v29:=x3.set v16.toNat v28;(match bnd v16 v29.length with
|true=>let v30:=v29.getD v16.toNat 0;let v31:=decide (v30<x1);(match v31 with
|true=>let v32:=([v16]:LI);(match (decide (v19.length+v32.length≤17592186044416)) with
|true=>let v33:=v19++v32;kc x1 x2 v29 v24 v33 v22
|false=>none)
|false=>let v34:=([v16]:LI);(match (decide (v22.length+v34.length≤17592186044416)) with
|true=>let v35:=v22++v34;kc x1 x2 v29 v24 v19 v35
|false=>none))
|false=>none)
|false=>none)
|false=>none)
|false=>none)
|false=>none)
|false=>none)
|false=>none)
|false=>none)
|false=>none)
|false=>none)
|false=>k0 x1 x2 x4)
|false=>k0 x1 x2 x4)
def zkp:Nat→zcl
 | 0=>fun _ _ _ _ _ _ _ _=>none
 | n+1=>fun R x1 x2 x3 x4 x5 x6 k0=>zyx R x1 x2 x3 x4 x5 x6 (fun x1 x2 x3 x4 x5 x6=>zkp n R x1 x2 x3 x4 x5 x6 k0) k0
def p170 (F86:FT86) (F209:zte) (L16:zcm) (L23:zcl):FT170:=fun R a0 k=>
let v1:=(a0.length:Int);let v2:=v1==0;(match v2 with
|true=>k ((0:Int),([]:(List Tq7)),()) (10:Int)
|false=>F86 R a0 fun y3 y4=>
(match (!y4) with
|true=>k ((0:Int),([]:(List Tq7)),()) (11:Int)
|false=>let v5:=y3==0;(match v5 with
|true=>k ((0:Int),([]:(List Tq7)),()) (10:Int)
|false=>let v6:=(a0.length:Int);let v7:=IntKind.u64.wrap v6;F209 R v7 y3 fun y8 y9=>
(match (!y9) with
|true=>k ((0:Int),([]:(List Tq7)),()) (11:Int)
|false=>let v10:=(a0.length:Int);(match (decide (0≤v10∧v10≤v10∧v10≤17592186044416)) with
|true=>let v11:=List.replicate v10.toNat (0:Int);let v12:=(a0.length:Int);(match (decide (0≤v12∧v12≤v12∧v12≤8796093022208)) with
|true=>let v13:=List.replicate v12.toNat ((0:Int),(0:Int),());L16 R a0 y3 v7 (0:Int) ((0:Int),([]:(List Tq7)),()) v11 v13 ([]:LI) ([]:LI) (fun x14 x15 x16 x17 x18 x19=>
L23 R x14 x15 x16 x17 x18 x19 (fun x20 x21 x22=>
k (x20,x22,()) (0:Int)))
|false=>none)
|false=>none)))))
def F170:FT170:=p170 F86 F209 (zkq FUEL) (zkp FUEL)
abbrev zei:=(R:Type)→Tq44→(Bool→Option R)→Option R
abbrev znx (Z:Type):=Int→Tq44→Z
abbrev zwm (R:Type):=(Bool→Option R)→(Option R)→Option R
abbrev zjs:=(R:Type)→znx (zwm R)
def p210_6 (R:Type):znx (znx (Option R)→zwm R):=fun x1 x2 kc k0 k1=>
let v3:=(x2.2.1.length:Int);let v4:=decide (x1<v3);(match v4 with
|true=>(match bnd x1 x2.2.1.length with
|true=>let v5:=x2.2.1.getD x1.toNat (0,0,());let v6:=decide (v5.1>x2.1);(match v6 with
|true=>k0 false
|false=>let v7:=decide (v5.2.1<0);(match v7 with
|true=>k0 false
|false=>let v8:=(x2.2.1.length:Int);let v9:=decide (v5.2.1≥v8);(match v9 with
|true=>k0 false
|false=>let v10:=IntKind.i64.wrap (x1+1);kc v10 x2)))
|false=>none)
|false=>k1)
def zu7:Nat→zjs
 | 0=>fun _ _ _ _ _=>none
 | n+1=>fun R x1 x2 k0 k1=>p210_6 R x1 x2 (fun x1 x2=>zu7 n R x1 x2 k0 k1) k0 k1
def p210 (F209:zte) (L6:zjs):zei:=fun R a0 k=>
let v1:=(a0.2.1.length:Int);let v2:=IntKind.u64.wrap v1;F209 R v2 a0.1 fun y3 y4=>
let v5:=v2==0;(match v5 with
|true=>k false
|false=>let v6:=a0.1==0;(match v6 with
|true=>k false
|false=>(match (!y4) with
|true=>k false
|false=>L6 R (0:Int) a0 (fun x7=>
k x7) (k true))))
def F210:zei:=p210 F209 (zu7 FUEL)
abbrev ztd:=(R:Type)→Tq44→(Int→Option R)→Option R
def p211 (F210:zei):ztd:=fun R a0 k=>
F210 R a0 fun y1=>
(match (!y1) with
|true=>k (0:Int)
|false=>let v2:=(a0.2.1.length:Int);let v3:=IntKind.u64.wrap v2;let v4:=IntKind.u64.wrap (v3*a0.1);k v4)
def F211:ztd:=p211 F210
abbrev FT245:=(R:Type)→Tq44→Int→Int→(Int→Int→Option R)→Option R
def p245 (F210:zei):FT245:=fun R a0 a1 a2 k=>
F210 R a0 fun y1=>
(match (!y1) with
|true=>k (0:Int) (1:Int)
|false=>let v2:=decide (a1<0);(match v2 with
|true=>k (0:Int) (3:Int)
|false=>let v3:=(a0.2.1.length:Int);let v4:=decide (a1≥v3);(match v4 with
|true=>k (0:Int) (3:Int)
|false=>let v5:=decide (a2≥a0.1);(match v5 with
|true=>k (0:Int) (3:Int)
|false=>(match bnd a1 a0.2.1.length with
|true=>let v6:=(a0.2.1.getD a1.toNat (0,0,())).1;let v7:=decide (a2<v6);(match v7 with
|true=>k a1 (0:Int)
|false=>(match bnd a1 a0.2.1.length with
|true=>let v8:=(a0.2.1.getD a1.toNat (0,0,())).2.1;k v8 (0:Int)
|false=>none))
|false=>none)))))
def F245:FT245:=p245 F210
abbrev FT212:=(R:Type)→Tq44→Int→(Int→Int→Option R)→Option R
def p212 (F210:zei) (F211:ztd) (F245:FT245):FT212:=fun R a0 a1 k=>
F210 R a0 fun y1=>
(match (!y1) with
|true=>k (0:Int) (1:Int)
|false=>F211 R a0 fun y2=>
let v3:=decide (a1≥y2);(match v3 with
|true=>k (0:Int) (3:Int)
|false=>(match (!(a0.1==0)) with
|true=>let v4:=IntKind.u64.wrap (Int.tdiv a1 a0.1);let v5:=IntKind.i64.wrap v4;(match (!(a0.1==0)) with
|true=>let v6:=Int.tmod a1 a0.1;F245 R a0 v5 v6 fun y7 y8=>
k y7 y8
|false=>none)
|false=>none)))
def F212:FT212:=p212 F210 F211 F245
abbrev FT171:=(R:Type)→Tq44→Tq40→Int→(Int→Tq40→Int→Option R)→Option R
def p171 (F131:zl1) (F210:zei) (F211:ztd) (F212:FT212):FT171:=fun R a0 a1 a2 k=>
F210 R a0 fun y1=>
(match (!y1) with
|true=>k (0:Int) a1 (1:Int)
|false=>F211 R a0 fun y2=>
F131 R a1 y2 a2 fun y3 y4 y5=>
let v6:=y5 !=0;(match v6 with
|true=>k (0:Int) y4 y5
|false=>F212 R a0 y3 fun y7 y8=>
k y7 y4 (0:Int)))
def F171:FT171:=p171 F131 F210 F211 F212
abbrev FT125:=(R:Type)→LI→Tq40→Int→(Int→Tq40→Int→Option R)→Option R
def p125 (F170:FT170) (F171:FT171):FT125:=fun R a0 a1 a2 k=>
F170 R a0 fun y1 y2=>
let v3:=y2 !=0;(match v3 with
|true=>k (0:Int) a1 y2
|false=>F171 R y1 a1 a2 fun y4 y5 y6=>
k y4 y5 y6)
def F125:FT125:=p125 F170 F171
abbrev FT82:=(R:Type)→LI→Int→Int→LI→(Int→Int→Option R)→Option R
def p82 (F42:FT42) (F89:FT89) (F125:FT125):FT82:=fun R a0 a1 a2 a3 k=>
F42 R a1 a2 fun y1=>
(match (!y1) with
|true=>k (0:Int) (1:Int)
|false=>F89 R a0 (2:Int) a1 fun y2=>
F125 R a3 y2 a2 fun y3 y4 y5=>
k y3 y5)
def F82:FT82:=p82 F42 F89 F125
abbrev FT126:=(R:Type)→LI→Int→Tq40→Int→(LI→Tq40→Int→Option R)→Option R
abbrev zor (Z:Type):=Int→Int→Tq40→Tq40→LI→LI→Z
abbrev zxg (R:Type):=(Int→Tq40→Option R)→(Tq40→Tq40→LI→Option R)→Option R
abbrev zj2:=(R:Type)→zor (zxg R)
def p126_7 (F86:FT86) (F131:zl1) (F132:zti) (R:Type):zor (zor (Option R)→zxg R):=fun x1 x2 x3 x4 x5 x6 kc k0 k1=>
let v7:=(x6.length:Int);let v8:=decide (v7<x1);(match v8 with
|true=>F86 R x5 fun y9 y10=>
(match (!y10) with
|true=>k0 (11:Int) x3
|false=>let v11:=y9==0;(match v11 with
|true=>k0 (10:Int) x3
|false=>F131 R x3 y9 x2 fun y12 y13 y14=>
let v15:=y14 !=0;(match v15 with
|true=>let v16:=y14 !=0;(match v16 with
|true=>k0 y14 y13
|false=>(match bnd 0 x5.length with
|true=>let v17:=x5.set 0 (0:Int);let v18:=([(0:Int)]:LI);(match (decide (x6.length+v18.length≤17592186044416)) with
|true=>let v19:=x6++v18;kc x1 x2 y13 x4 v17 v19
|false=>none)
|false=>none))
|false=>F132 R x5 y12 fun y20 y21=>
(match bnd y20 x5.length with
|true=>let v22:=x5.set y20.toNat (0:Int);let v23:=([y20]:LI);(match (decide (x6.length+v23.length≤17592186044416)) with
|true=>let v24:=x6++v23;kc x1 x2 y13 x4 v22 v24
|false=>none)
|false=>none))))
|false=>k1 x3 x4 x6)
def zvi:Nat→zj2
 | 0=>fun _ _ _ _ _ _ _ _ _=>none
 | n+1=>fun R x1 x2 x3 x4 x5 x6 k0 k1=>p126_7 F86 F131 F132 R x1 x2 x3 x4 x5 x6 (fun x1 x2 x3 x4 x5 x6=>zvi n R x1 x2 x3 x4 x5 x6 k0 k1) k0 k1
def p126 (F81:FT81) (F172:zej) (L7:zj2):FT126:=fun R a0 a1 a2 a3 k=>
let v1:=decide (a1<0);(match v1 with
|true=>k ([]:LI) a2 (1:Int)
|false=>let v2:=decide (a1>256);(match v2 with
|true=>k ([]:LI) a2 (1:Int)
|false=>F172 R a2 fun y3=>
(match (!y3) with
|true=>k ([]:LI) a2 (1:Int)
|false=>let v4:=decide (a3<1);(match v4 with
|true=>k ([]:LI) a2 (1:Int)
|false=>let v5:=decide (a3>64);(match v5 with
|true=>k ([]:LI) a2 (1:Int)
|false=>F81 R a0 fun y6=>
let v7:=decide (y6<a1);(match v7 with
|true=>k ([]:LI) a2 (12:Int)
|false=>let v8:=([]:LI);(match (decide (v8.length+a0.length≤17592186044416)) with
|true=>let v9:=v8++a0;L7 R a1 a3 a2 ((0:Int),([]:LI),(0:Int),(List.replicate 32 (0:Int)),(0:Int),(0:Int),()) v9 ([]:LI) (fun x10 x11=>
k ([]:LI) x11 x10) (fun x12 x13 x14=>
k x14 x12 (0:Int))
|false=>none)))))))
def F126:FT126:=p126 F81 F172 (zvi FUEL)
abbrev FT83:=(R:Type)→LI→Int→Int→Int→LI→(LI→Int→Option R)→Option R
def p83 (F42:FT42) (F43:FT43) (F89:FT89) (F126:FT126):FT83:=fun R a0 a1 a2 a3 a4 k=>
F42 R a1 a3 fun y1=>
(match (!y1) with
|true=>k ([]:LI) (1:Int)
|false=>F43 R a4 fun y2 y3=>
let v4:=y3 !=0;(match v4 with
|true=>k ([]:LI) y3
|false=>F89 R a0 (3:Int) a1 fun y5=>
F126 R a4 a2 y5 a3 fun y6 y7 y8=>
k y6 y8))
def F83:FT83:=p83 F42 F43 F89 F126
abbrev FT38:=(R:Type)→Tq29→Tq13→(Tq17→Option R)→Option R
def p38 (F22:FT22) (F34:FT34) (F44:FT44) (F74:FT74) (F81:FT81) (F82:FT82) (F83:FT83):FT38:=fun R a0 a1 k=>
F22 R a0.2.2.1 fun y1=>
let v2:=a1.1==10;(match v2 with
|true=>F74 R a0 a1.2.1 fun y3=>
(match (!y3) with
|true=>F34 R (5:Int) fun y4=>
k y4
|false=>let v5:=a1.2.2.2.2.1==0;(match v5 with
|true=>(match bnd a1.2.1 a0.2.2.1.length with
|true=>let v6:=(a0.2.2.1.getD a1.2.1.toNat ((List.replicate 32 0),0,0,())).2.1;k ((0:Int),v6,([]:LI),(List.replicate 32 (0:Int)),())
|false=>none)
|false=>(match bnd a1.2.1 a0.2.2.1.length with
|true=>let v7:=(a0.2.2.1.getD a1.2.1.toNat ((List.replicate 32 0),0,0,())).2.2.1;k ((0:Int),v7,([]:LI),(List.replicate 32 (0:Int)),())
|false=>none)))
|false=>let v8:=a1.1==11;(match v8 with
|true=>k ((0:Int),a0.2.2.2.1.1,([]:LI),a0.2.2.2.1.2.1,())
|false=>let v9:=decide (a1.2.2.2.2.1≥a0.1.1);(match v9 with
|true=>F34 R (3:Int) fun y10=>
k y10
|false=>let v11:=a1.1==7;(match v11 with
|true=>F81 R y1 fun y12=>
let v13:=y12==0;(match v13 with
|true=>F34 R (10:Int) fun y14=>
k y14
|false=>F44 R a0.2.2.2.1.2.1 a1.2.2.2.2.1 a0.1.2.2.2.1 y1 fun y15 y16=>
let v17:=([y15]:LI);let v18:=y16 !=0;(match v18 with
|true=>F34 R y16 fun y19=>
k y19
|false=>k ((0:Int),(0:Int),v17,(List.replicate 32 (0:Int)),())))
|false=>let v20:=a1.1==8;(match v20 with
|true=>F82 R a0.2.2.2.1.2.1 a1.2.2.2.2.1 a0.1.2.2.2.1 y1 fun y21 y22=>
let v23:=([y21]:LI);let v24:=y22 !=0;(match v24 with
|true=>F34 R y22 fun y25=>
k y25
|false=>k ((0:Int),(0:Int),v23,(List.replicate 32 (0:Int)),()))
|false=>F83 R a0.2.2.2.1.2.1 a1.2.2.2.2.1 a1.2.1 a0.1.2.2.2.1 y1 fun y26 y27=>
let v28:=y27 !=0;(match v28 with
|true=>F34 R y27 fun y29=>
k y29
|false=>k ((0:Int),(0:Int),y26,(List.replicate 32 (0:Int)),())))))))
def F38:FT38:=p38 F22 F34 F44 F74 F81 F82 F83
abbrev FT14:=(R:Type)→Tq29→Tq13→(Tq29→Tq17→Option R)→Option R
def en14 (F:FT14):Ent:=eV 14 [Kq29,Kq13] [Kq29,Kq17] F
def p14 (F33:FT33) (F34:FT34) (F35:FT35) (F36:FT36) (F37:FT37) (F38:FT38):FT14:=fun R a0 a1 k=>
F33 R a1 fun y1=>
(match (!y1) with
|true=>F34 R (2:Int) fun y2=>
k a0 y2
|false=>let v3:=a1.1==1;(match v3 with
|true=>F35 R a0 a1 fun y4 y5=>
k y4 y5
|false=>let v6:=a1.1==2;(match v6 with
|true=>F35 R a0 a1 fun y7 y8=>
k y7 y8
|false=>let v9:=a1.1==3;(match v9 with
|true=>F35 R a0 a1 fun y10 y11=>
k y10 y11
|false=>let v12:=a1.1==4;(match v12 with
|true=>F36 R a0 a1 fun y13 y14=>
k y13 y14
|false=>let v15:=a1.1==5;(match v15 with
|true=>F36 R a0 a1 fun y16 y17=>
k y16 y17
|false=>let v18:=a1.1==6;(match v18 with
|true=>F37 R a0 fun y19 y20=>
k y19 y20
|false=>let v21:=a1.1==0;(match v21 with
|true=>F34 R (2:Int) fun y22=>
k a0 y22
|false=>F38 R a0 a1 fun y23=>
k a0 y23))))))))
def F14:FT14:=p14 F33 F34 F35 F36 F37 F38
abbrev FT15:=(R:Type)→Tq17→Tq17→(Bool→Option R)→Option R
def en15 (F:FT15):Ent:=eV 15 [Kq17,Kq17] [.bool] F
def p15 (F20:FT20):FT15:=fun R a0 a1 k=>
let v1:=a0.1==a1.1;(match v1 with
|true=>let v2:=a0.2.1==a1.2.1;(match v2 with
|true=>F20 R a0.2.2.1 a1.2.2.1 fun y3=>
(match y3 with
|true=>let v4:=Kd.eqv (.arr 32 (.int .u8)) a0.2.2.2.1 a1.2.2.2.1;k v4
|false=>k false)
|false=>k false)
|false=>k false)
def F15:FT15:=p15 F20
abbrev FT4:=(R:Type)→LI→LI→(List Tq13)→(Bool→Option R)→Option R
def en4 (F:FT4):Ent:=eV 4 [(.arr 5 (.int .u8)),(.arr 32 (.int .u8)),(.sl Kq13)] [.bool] F
abbrev D4_8 (Z:Type):=(List Tq13)→Int→Tq29→Tq29→Z
abbrev E4_8 (R:Type):=(Bool→Option R)→(Option R)→Option R
abbrev ztb:=(R:Type)→D4_8 (E4_8 R)
def le4_8 (L:ztb):LEnt:=lM 8 [.val 2 (.sl Kq13),.fix 7 (.ptr 2 [] Kq29),.fix 9 (.ptr 3 [] Kq29),.val 11 (.int .i64),.var 2 Kq29 false,.var 3 Kq29 false] 4 [(.ret,[.val 6 .bool]),(.exit 0,[])] L
def e4 (F8:FT8) (F9:FT9) (F10:FT10) (F11:FT11) (F12:FT12) (F13:FT13) (F14:FT14) (F15:FT15) (F16:FT16) (L8:ztb):=sE 0 80 [] [en8 F8,en9 F9,en10 F10,en11 F11,en12 F12,en13 F13,en14 F14,en15 F15,en16 F16] [le4_8 L8]
def p4 (F8:FT8) (F9:FT9) (F10:FT10) (F12:FT12) (L8:ztb):FT4:=fun R a0 a1 a2 k=>
F8 R  fun y1=>
(match (!y1) with
|true=>k false
|false=>let v2:=(a2.length:Int);let v3:=decide (v2>50);(match v3 with
|true=>k true
|false=>F12 R a0 fun y4=>
F9 R y4 a1 fun y5 y6=>
F12 R a0 fun y7=>
F10 R y7 a1 fun y8 y9=>
L8 R a2 (0:Int) y5 y8 (fun x10=>
k x10) (k true)))
theorem q4 (F8:FT8) (F9:FT9) (F10:FT10) (F11:FT11) (F12:FT12) (F13:FT13) (F14:FT14) (F15:FT15) (F16:FT16) (L8:ztb):EQ (en4 (p4 F8 F9 F10 F12 L8)) (e4 F8 F9 F10 F11 F12 F13 F14 F15 F16 L8) Tryz.f4 [(.tmp 6,4,false)]:=fun _ _ _=>by kernel_rfl
abbrev FT18:=(R:Type)→(List Tq17)→(List Tq17)→(Bool→Option R)→Option R
def en18 (F:FT18):Ent:=eV 18 [(.sl Kq17),(.sl Kq17)] [.bool] F
abbrev D18_4 (Z:Type):=(List Tq17)→(List Tq17)→Int→Z
abbrev E18_4 (R:Type):=(Bool→Option R)→(Option R)→Option R
abbrev zup:=(R:Type)→D18_4 (E18_4 R)
def p18_4 (F15:FT15) (R:Type):D18_4 (D18_4 (Option R)→E18_4 R):=fun x1 x2 x3 kc k0 k1=>
let v4:=(x1.length:Int);let v5:=decide (x3<v4);(match v5 with
|true=>(match bnd x3 x1.length with
|true=>let v6:=x1.getD x3.toNat (0,0,[],(List.replicate 32 0),());(match bnd x3 x2.length with
|true=>let v7:=x2.getD x3.toNat (0,0,[],(List.replicate 32 0),());F15 R v6 v7 fun y8=>
(match (!y8) with
|true=>k0 false
|false=>let v9:=IntKind.i64.wrap (x3+1);kc x1 x2 v9)
|false=>none)
|false=>none)
|false=>k1)
def G18_4:Nat→zup
 | 0=>fun _ _ _ _ _ _=>none
 | n+1=>fun R x1 x2 x3 k0 k1=>p18_4 F15 R x1 x2 x3 (fun x1 x2 x3=>G18_4 n R x1 x2 x3 k0 k1) k0 k1
def p18 (L4:zup):FT18:=fun R a0 a1 k=>
let v1:=(a0.length:Int);let v2:=(a1.length:Int);let v3:=v1 !=v2;(match v3 with
|true=>k false
|false=>L4 R a0 a1 (0:Int) (fun x4=>
k x4) (k true))
def F18:FT18:=p18 (G18_4 FUEL)
abbrev FT5:=(R:Type)→LI→(List Tq13)→Int→(Bool→Option R)→Option R
def en5 (F:FT5):Ent:=eV 5 [(.arr 5 (.int .u8)),(.sl Kq13),(.int .u8)] [.bool] F
def p5 (F8:FT8) (F9:FT9) (F11:FT11) (F12:FT12) (F17:FT17) (F18:FT18):FT5:=fun R a0 a1 a2 k=>
F8 R  fun y1=>
(match (!y1) with
|true=>k false
|false=>let v2:=(a1.length:Int);let v3:=decide (v2>50);(match v3 with
|true=>k true
|false=>F12 R a0 fun y4=>
let v5:=List.set (List.replicate 32 (0:Int)) 0 (1:Int);F9 R y4 v5 fun y6 y7=>
let v8:=IntKind.i64.wrap a2;let v9:=(a1.length:Int);let v10:=IntKind.i64.wrap (v9+1);(match (!(v10==0)) with
|true=>let v11:=Int.tmod v8 v10;F17 R y6 a1 fun y12 y13=>
(match (decide (0≤(0:Int)∧(0:Int)≤v11∧v11≤v11∧v11≤(a1.length:Int))) with
|true=>let v14:=List.take (Int.toNat (v11 - 0)) (List.drop 0 a1);F17 R y6 v14 fun y15 y16=>
(match (decide (0≤v11∧v11≤(a1.length:Int)∧(a1.length:Int)≤(a1.length:Int)∧(a1.length:Int)≤(a1.length:Int))) with
|true=>let v17:=List.take (Int.toNat ((a1.length:Int) - v11)) (List.drop v11.toNat a1);F17 R y15 v17 fun y18 y19=>
F11 R y12 y18 fun y20=>
(match y20 with
|true=>let v21:=([]:(List Tq17));(match (decide (v21.length+y16.length≤1954687338268)) with
|true=>let v22:=v21++y16;(match (decide (v22.length+y19.length≤1954687338268)) with
|true=>let v23:=v22++y19;F18 R y13 v23 fun y24=>
(match y24 with
|true=>let v25:=(y13.length:Int);let v26:=(a1.length:Int);let v27:=v25==v26;k v27
|false=>k false)
|false=>none)
|false=>none)
|false=>k false)
|false=>none)
|false=>none)
|false=>none)))
theorem q5 (F8:FT8) (F9:FT9) (F11:FT11) (F12:FT12) (F17:FT17) (F18:FT18):EQ (en5 (p5 F8 F9 F11 F12 F17 F18)) (sE 0 75 [(10,5)] [en8 F8,en9 F9,en11 F11,en12 F12,en17 F17,en18 F18] []) Tryz.f5 [(.tmp 6,4,false)]:=fun _ _ _=>by kernel_rfl
abbrev FT19:=(R:Type)→Int→(Bool→Option R)→Option R
def en19 (F:FT19):Ent:=eV 19 [(.int .i64)] [.bool] F
def p19:FT19:=fun R a0 k=>
let v1:=decide (a0≥7);(match v1 with
|true=>let v2:=decide (a0≤11);k v2
|false=>k false)
def F19:FT19:=p19
abbrev FT6:=(R:Type)→LI→(List Tq13)→Tq13→(Bool→Option R)→Option R
def en6 (F:FT6):Ent:=eV 6 [(.arr 5 (.int .u8)),(.sl Kq13),Kq13] [.bool] F
def p6 (F8:FT8) (F9:FT9) (F11:FT11) (F12:FT12) (F13:FT13) (F17:FT17) (F19:FT19):FT6:=fun R a0 a1 a2 k=>
F8 R  fun y1=>
(match (!y1) with
|true=>k false
|false=>let v2:=(a1.length:Int);let v3:=decide (v2>50);(match v3 with
|true=>k true
|false=>F12 R a0 fun y4=>
let v5:=List.set (List.replicate 32 (0:Int)) 0 (1:Int);F9 R y4 v5 fun y6 y7=>
F17 R y6 a1 fun y8 y9=>
F13 R y8 a2 fun y10 y11=>
let v12:=y11.1 !=0;(match v12 with
|true=>F11 R y8 y10 fun y13=>
(match y13 with
|true=>let v14:=y11.2.1==0;(match v14 with
|true=>let v15:=(y11.2.2.1.length:Int);let v16:=v15==0;(match v16 with
|true=>let v17:=List.replicate 32 (0:Int);let v18:=Kd.eqv (.arr 32 (.int .u8)) y11.2.2.2.1 v17;k v18
|false=>k false)
|false=>k false)
|false=>k false)
|false=>F19 R a2.1 fun y19=>
(match (!y19) with
|true=>k true
|false=>F11 R y8 y10 fun y20=>
k y20))))
theorem q6 (F8:FT8) (F9:FT9) (F11:FT11) (F12:FT12) (F13:FT13) (F17:FT17) (F19:FT19):EQ (en6 (p6 F8 F9 F11 F12 F13 F17 F19)) (sE 0 67 [] [en8 F8,en9 F9,en11 F11,en12 F12,en13 F13,en17 F17,en19 F19] []) Tryz.f6 [(.tmp 6,4,false)]:=fun _ _ _=>by kernel_rfl
abbrev FT7:=(R:Type)→LI→LI→(List Tq13)→(Bool→Option R)→Option R
abbrev D7_8 (Z:Type):=(List Tq13)→Int→Tq21→Tq29→Z
abbrev E7_8 (R:Type):=(Bool→Option R)→(Option R)→Option R
abbrev LT7_8:=(R:Type)→D7_8 (E7_8 R)
def le7_8 (L:LT7_8):LEnt:=lM 8 [.val 2 (.sl Kq13),.fix 7 (.ptr 2 [] Kq21),.fix 8 (.ptr 3 [] Kq29),.val 10 (.int .i64),.var 2 Kq21 false,.var 3 Kq29 false] 4 [(.ret,[.val 6 .bool]),(.exit 0,[])] L
abbrev D7_15 (Z:Type):=(List Tq13)→Int→Bool→Int→Tq21→Tq29→Tq29→Z
abbrev E7_15 (R:Type):=(Bool→Option R)→((List Tq13)→Int→Bool→Tq21→Tq29→Tq29→Option R)→Option R
abbrev zuk:=(R:Type)→D7_15 (E7_15 R)
def le7_15 (L:zuk):LEnt:=lM 15 [.val 2 (.sl Kq13),.fix 7 (.ptr 2 [] Kq21),.fix 8 (.ptr 3 [] Kq29),.val 10 (.int .i64),.fix 11 (.ptr 4 [] Kq29),.val 13 .bool,.val 14 (.int .i64),.var 2 Kq21 false,.var 3 Kq29 false,.var 4 Kq29 false] 5 [(.ret,[.val 6 .bool]),(.exit 2,[.val 2 (.sl Kq13),.fix 7 (.ptr 2 [] Kq21),.fix 8 (.ptr 3 [] Kq29),.val 10 (.int .i64),.fix 11 (.ptr 4 [] Kq29),.val 13 .bool,.var 2 Kq21 false,.var 3 Kq29 false,.var 4 Kq29 false])] L
def e7 (F8:FT8) (F9:FT9) (F12:FT12) (F13:FT13) (F20:FT20) (F21:FT21) (F22:FT22) (L8:LT7_8) (L15:zuk):=sE 0 161 [] [en8 F8,en9 F9,en12 F12,en13 F13,en20 F20,en21 F21,en22 F22] [le7_8 L8,le7_15 L15]
def p7 (F8:FT8) (F9:FT9) (F12:FT12) (L8:LT7_8):FT7:=fun R a0 a1 a2 k=>
F8 R  fun y1=>
(match (!y1) with
|true=>k false
|false=>let v2:=(a2.length:Int);let v3:=decide (v2>50);(match v3 with
|true=>k true
|false=>F12 R a0 fun y4=>
F9 R y4 a1 fun y5 y6=>
L8 R a2 (0:Int) y4 y5 (fun x7=>
k x7) (k true)))
end Go.PG
namespace Go.PG
end Go.PG
namespace Go.PG
def U32 (x:Int):Prop:=0≤x∧x<4294967296
def U8 (x:Int):Prop:=0≤x∧x<256
theorem Rg {x:Int} (h:U32 x):(BitVec.ofInt 32 x).toNat=x.toNat:=by
 rw [BitVec.toNat_ofInt];unfold U32 at h;have:x % ((2^32:Nat):Int)=x:=by omega
 rw [this]
theorem Nk (b:BitVec 32):IntKind.u32.wrap ((b.toNat:Nat):Int)=(b.toNat:Int):=by
 have:=b.isLt;exact Cg (by omega) (by omega)
theorem zby (a b:Int):iand .u32 a b=((BitVec.ofInt 32 a&&& BitVec.ofInt 32 b).toNat:Int):=Nk _
theorem Ro (a b:Int):ior .u32 a b=((BitVec.ofInt 32 a||| BitVec.ofInt 32 b).toNat:Int):=Nk _
theorem Rn (a b:Int):ixor .u32 a b=((BitVec.ofInt 32 a^^^BitVec.ofInt 32 b).toNat:Int):=Nk _
theorem Jg (a:Int):U32 (IntKind.u32.wrap a):=by rw [Cv]; unfold U32; omega
theorem Hd (b:BitVec 32):BitVec.ofInt 32 ((b.toNat:Nat):Int)=b:=by
 rw [BitVec.ofInt_natCast,BitVec.ofNat_toNat,BitVec.setWidth_eq]
theorem zix {a:Int} (b c:Int) (ha:U32 a):ixor .u32 (iand .u32 a b) (iand .u32 (ixor .u32 4294967295 a) c)=ior .u32 (iand .u32 a b) (iand .u32 (IntKind.u32.wrap (4294967295 - a)) c):=by
 have h1:IntKind.u32.wrap (4294967295 - a)=ixor .u32 4294967295 a:=by
  rw [Rn,Cg (by unfold U32 at ha; omega) (by unfold U32 at ha; omega)];have e:BitVec.ofInt 32 4294967295=BitVec.allOnes 32:=by decide
  rw [e,BitVec.allOnes_xor,BitVec.toNat_not,Rg ha];unfold U32 at ha;omega
 rw [h1];simp only [zby,Ro,Rn,Hd]
 congr 2
 have e:BitVec.ofInt 32 4294967295=BitVec.allOnes 32:=by decide
 rw [e]
 ext i hi
 simp only [BitVec.getElem_xor,BitVec.getElem_and,BitVec.getElem_or,BitVec.getElem_allOnes];cases (BitVec.ofInt 32 a)[i]<;>simp
theorem W0 (a b c:Int):ixor .u32 (ixor .u32 (iand .u32 a b) (iand .u32 a c)) (iand .u32 b c)=ior .u32 (ior .u32 (iand .u32 a b) (iand .u32 a c)) (iand .u32 b c):=by
 simp only [zby,Ro,Rn,Hd]
 congr 2
 ext i hi
 simp;cases (BitVec.ofInt 32 a)[i]<;>cases (BitVec.ofInt 32 b)[i]<;>cases (BitVec.ofInt 32 c)[i]<;>rfl
def rotS (x:Int) (r:Nat):Int:=x/2^r+(x % 2^r)*2^(32 - r)
theorem Tf {x:Int} {r:Nat} (hx:U32 x) (hr:r<32):rotS x (r+1)=rotS x r/2+(rotS x r % 2)*2147483648:=by
 unfold rotS U32 at*;have e1:(2:Int)^(32 - r)=2*2^(31 - r):=by
  rw [show 32 - r=(31 - r)+1 by omega,Int.pow_succ]; omega
 have e2:(2:Int)^(32 - (r+1))=2^(31 - r):=by rw [show 32 - (r+1)=31 - r by omega]
 have e3:(2:Int)^(r+1)=2^r*2:=Int.pow_succ _ _;have e4:(2:Int)^r*2^(31 - r)=2147483648:=by
  rw [←Int.pow_add,show r+(31 - r)=31 by omega]; decide
 rw [e1,e2,e3];have hp:(0:Int)<2^r:=Int.pow_pos (by decide);generalize (2:Int)^r=p at*;generalize (2:Int)^(31 - r)=s at*;have d1:x/(p*2)=x/p/2:=(Int.ediv_ediv_of_nonneg (by omega)).symm;have d2:x % (p*2)=x % p+p*(x/p % 2):=by
  have a1:=Int.emod_add_mul_ediv x p;have a2:=Int.emod_add_mul_ediv x (p*2);have a3:=Int.emod_add_mul_ediv (x/p) 2;rw [d1] at a2;generalize x/p=q at*;generalize x % p=m at*;generalize q/2=h at*;generalize q % 2=t at*;have:p*(t+2*h)=p*q:=by rw [a3]
  rw [Int.mul_add,←Int.mul_assoc] at this;omega
 rw [d1,d2,Int.add_mul];have e5:p*(x/p % 2)*s=(x/p % 2)*2147483648:=by
  rw [Int.mul_comm p,Int.mul_assoc,e4]
 rw [e5];have e6:x % p*(2*s)=2*(x % p*s):=by rw [Int.mul_left_comm]
 rw [e6];generalize x % p*s=u;omega
theorem Te (x:Int):rotS x 0=x:=by simp [rotS]
theorem ze6 {x:Int} (hx:U32 x):∀{r:Nat},r≤32→U32 (rotS x r)
 | 0,_=>by rw [Te]; exact hx
 | r+1,h=>by
  have ih:=ze6 hx (r:=r) (by omega);rw [Tf hx (by omega)];unfold U32 at*;omega
theorem two_pow_pos (r:Nat):(0:Int)<2^r:=Int.pow_pos (by decide)
theorem rot_or {x:Int} (hx:U32 x) {r:Nat} (h0:0<r) (hr:r<32):ior .u32 (ishr .u32 x r) (ishl .u32 x ((32:Int) - r))=rotS x r:=by
 unfold U32 at hx;obtain ⟨n,rfl⟩:∃n:Nat,x=n:=⟨x.toNat,by omega⟩
 have hn:n<2^32:=by omega
 have e1:ishr .u32 (n:Int) r=((n/2^r:Nat):Int):=by
  unfold ishr;rw [show IntKind.u32.bits=32 from rfl,show ((r:Int).toNat)=r by simp,Nat.min_eq_left (by omega),Int.fdiv_eq_ediv_of_nonneg _ (by have:=two_pow_pos r; omega)];simp
 have e2:ishl .u32 (n:Int) ((32:Int) - r)=((n*2^(32 - r) % 2^32:Nat):Int):=by
  unfold ishl;rw [show IntKind.u32.bits=32 from rfl,show ((32:Int) - r).toNat=32 - r by omega,Nat.min_eq_left (by omega),Cv];simp
 rw [e1,e2,Ro,BitVec.ofInt_natCast,BitVec.ofInt_natCast,BitVec.toNat_or,BitVec.toNat_ofNat,BitVec.toNat_ofNat];have hd:n/2^r<2^(32 - r):=by
  rw [Nat.div_lt_iff_lt_mul (Nat.two_pow_pos r),←Nat.pow_add,show 32 - r+r=32 by omega]; exact hn
 have h3:n*2^(32 - r) % 2^32=(n % 2^r)*2^(32 - r):=by
  have:2^32=2^r*2^(32 - r):=by rw [←Nat.pow_add,show r+(32 - r)=32 by omega]
  rw [this,Nat.mul_mod_mul_right]
 have h4:n/2^r<2^32:=Nat.lt_of_le_of_lt (Nat.div_le_self _ _) hn;rw [h3,Nat.mod_eq_of_lt h4,Nat.mod_eq_of_lt (by
  have:n % 2^r<2^r:=Nat.mod_lt _ (Nat.two_pow_pos r);have h5:2^32=2^r*2^(32 - r):=by rw [←Nat.pow_add,show r+(32 - r)=32 by omega]
  rw [h5]; exact Nat.mul_lt_mul_of_pos_right this (Nat.two_pow_pos _)),Nat.or_comm]
 have h6:=Nat.shiftLeft_add_eq_or_of_lt hd (n % 2^r);rw [Nat.shiftLeft_eq] at h6;rw [←h6];unfold rotS;simp;omega
end Go.PG
namespace Go.PG
theorem F293_eq (R:Type) {x:Int} (hx:U32 x) {r:Nat} (h0:0<r) (hr:r<32) (k:Int→Option R):F293 R x (r:Int) k=k (rotS x r):=by
 simp only [F293,p293];rw [Ai (n:=(r:Int)) (by omega) (by omega),Int.tmod_eq_of_lt (by omega) (by omega),Ai (by omega) (by omega)];rw [show decide (0≤(r:Int))=true by simp,show decide (0≤(32:Int) - r)=true by simp; omega];simp only;rw [rot_or hx h0 hr]
theorem zkh (R:Type) {x:Int} (hx:U32 x) {r:Nat} (hr:r≤32) (k:Int→Option R):∀(m i:Nat),i≤r→r - i<m→O1 m R (rotS x i) (r:Int) (i:Int) k=k (rotS x r)
 | 0,i,_,h=>by omega
 | m+1,i,h1,h2=>by
  simp only [O1,zf0]
  by_cases hi:i<r
  ·have hd:decide ((i:Int)<(r:Int))=true:=by simpa using hi
   have hu:=ze6 hx (r:=i) (by omega);have hs:=Tf hx (r:=i) (by omega);simp only [hd];have ih:=zkh R hx hr k m (i+1) (by omega) (by omega);rw [hs] at ih;rw [←ih];unfold U32 at hu;rw [Int.tdiv_eq_ediv_of_nonneg hu.1,Int.tmod_eq_emod_of_nonneg hu.1];rw [Cg (n:=rotS x i/2) (by omega) (by omega),Cg (n:=rotS x i % 2*2147483648) (by omega) (by omega),Cg (by omega) (by omega),wrap_i64 (by omega) (by omega)];rfl
  ·have hd:decide ((i:Int)<(r:Int))=false:=by simpa using hi
   have:i=r:=by omega
   subst this;simp only [hd]
theorem F248_eq (R:Type) {x:Int} (hx:U32 x) {r:Nat} (hr:r<32) (k:Int→Option R):F248 R x (r:Int) k=k (rotS x r):=by
 simp only [F248,p248];rw [Int.tmod_eq_of_lt (by omega) (by omega)];have hd:decide ((r:Int)<0)=false:=by simp
 simp only [hd];have:=zkh R hx (r:=r) (by omega) k FUEL 0 (by omega) (by rw [Al]; omega);rw [Te] at this;exact this
def shrS (x:Int) (r:Nat):Int:=x/2^r
theorem zbc {x:Int} (hx:U32 x) {r:Nat} (hr:r≤32):ishr .u32 x r=shrS x r:=by
 unfold ishr shrS;rw [show IntKind.u32.bits=32 from rfl,show ((r:Int).toNat)=r by simp,Nat.min_eq_left hr,Int.fdiv_eq_ediv_of_nonneg _ (by have:=two_pow_pos r; omega)]
theorem F294_eq (R:Type) {x:Int} (hx:U32 x) {r:Nat} (hr:r≤32) (k:Int→Option R):F294 R x (r:Int) k=k (shrS x r):=by
 simp only [F294,p294];have e:(if (0:Int)>(r:Int) then (0:Int) else (r:Int))=r:=by split<;>omega
 rw [e,Ai (by omega) (by omega),zbc hx hr];have hd:decide ((0:Int)≤(r:Int))=true:=by simp
 simp only [hd]
theorem zxz {x:Int} (hx:U32 x) (r:Nat):U32 (shrS x r):=by
 unfold shrS U32 at*;have hp:=two_pow_pos r;exact ⟨Int.ediv_nonneg hx.1 (by omega),Int.lt_of_le_of_lt (Int.ediv_le_self _ hx.1) hx.2⟩
theorem zew (x:Int) (r:Nat):shrS x (r+1)=shrS x r/2:=by
 unfold shrS;rw [Int.pow_succ,Int.ediv_ediv_of_nonneg (by have:=two_pow_pos r; omega)]
theorem zki (R:Type) {x:Int} (hx:U32 x) {r:Nat} (hr:r≤32) (k:Int→Option R):∀(m i:Nat),i≤r→r - i<m→O2 m R (shrS x i) (r:Int) (i:Int) k=k (shrS x r)
 | 0,i,_,h=>by omega
 | m+1,i,h1,h2=>by
  simp only [O2,zf1]
  by_cases hi:i<r
  ·have hd:decide ((i:Int)<(r:Int))=true:=by simpa using hi
   have hu:=zxz hx i;simp only [hd];have ih:=zki R hx hr k m (i+1) (by omega) (by omega);rw [zew] at ih;rw [←ih];unfold U32 at hu;rw [Int.tdiv_eq_ediv_of_nonneg hu.1,Cg (by omega) (by omega),wrap_i64 (by omega) (by omega)];rfl
  ·have hd:decide ((i:Int)<(r:Int))=false:=by simpa using hi
   have:i=r:=by omega
   subst this;simp only [hd]
theorem F247_eq (R:Type) {x:Int} (hx:U32 x) {r:Nat} (hr:r<32) (k:Int→Option R):F247 R x (r:Int) k=k (shrS x r):=by
 simp only [F247,p247];have hd:decide ((r:Int)>31)=false:=by simp; omega
 simp only [hd];have:=zki R hx (r:=r) (by omega) k FUEL 0 (by omega) (by rw [Al]; omega);rw [show shrS x 0=x by simp [shrS]] at this;exact this
theorem Dw (R:Type) {x:Int} (hx:U32 x) {n:Int} (r:Nat) (e:n=(r:Int)) (h0:0<r) (hr:r<32) (k:Int→Option R):F293 R x n k=k (rotS x r):=by rw [e]; exact F293_eq R hx h0 hr k
theorem Gt (R:Type) {x:Int} (hx:U32 x) {n:Int} (r:Nat) (e:n=(r:Int)) (hr:r<32) (k:Int→Option R):F248 R x n k=k (rotS x r):=by rw [e]; exact F248_eq R hx hr k
theorem zcu (R:Type) {x:Int} (hx:U32 x) {n:Int} (r:Nat) (e:n=(r:Int)) (hr:r≤32) (k:Int→Option R):F294 R x n k=k (shrS x r):=by rw [e]; exact F294_eq R hx hr k
theorem zcw (R:Type) {x:Int} (hx:U32 x) {n:Int} (r:Nat) (e:n=(r:Int)) (hr:r<32) (k:Int→Option R):F247 R x n k=k (shrS x r):=by rw [e]; exact F247_eq R hx hr k
def sig3 (x:Int) (a b c:Nat):Int:=ixor .u32 (ixor .u32 (rotS x a) (rotS x b)) (rotS x c)
def sig2 (x:Int) (a b c:Nat):Int:=ixor .u32 (ixor .u32 (rotS x a) (rotS x b)) (shrS x c)
theorem F286_eq (R:Type) {x:Int} (hx:U32 x) (k:Int→Option R):F286 R x k=k (sig2 x 17 19 10):=by
 simp only [F286,p286,F291,p291];rw [Dw R hx (n:=17) 17 rfl (by omega) (by omega),Dw R hx (n:=19) 19 rfl (by omega) (by omega),zcu R hx (n:=10) 10 rfl (by omega)];simp only [sig2]
theorem F287_eq (R:Type) {x:Int} (hx:U32 x) (k:Int→Option R):F287 R x k=k (sig2 x 7 18 3):=by
 simp only [F287,p287,F291,p291];rw [Dw R hx (n:=7) 7 rfl (by omega) (by omega),Dw R hx (n:=18) 18 rfl (by omega) (by omega),zcu R hx (n:=3) 3 rfl (by omega)];simp only [sig2]
theorem F217_eq (R:Type) {x:Int} (hx:U32 x) (k:Int→Option R):F217 R x k=k (sig2 x 17 19 10):=by
 have h1:=Gt R hx (n:=17) 17 rfl (by omega);have h2:=Gt R hx (n:=19) 19 rfl (by omega);have h3:=zcw R hx (n:=10) 10 rfl (by omega);show p217 F247 F248 R x k=_;generalize F248=f at*;generalize F247=g at*;simp only [p217,h1,h2,h3,sig2]
theorem F218_eq (R:Type) {x:Int} (hx:U32 x) (k:Int→Option R):F218 R x k=k (sig2 x 7 18 3):=by
 have h1:=Gt R hx (n:=7) 7 rfl (by omega);have h2:=Gt R hx (n:=18) 18 rfl (by omega);have h3:=zcw R hx (n:=3) 3 rfl (by omega);show p218 F247 F248 R x k=_;generalize F248=f at*;generalize F247=g at*;simp only [p218,h1,h2,h3,sig2]
def chS (a b c:Int):Int:=ior .u32 (iand .u32 a b) (iand .u32 (IntKind.u32.wrap (4294967295 - a)) c)
def majS (a b c:Int):Int:=ior .u32 (ior .u32 (iand .u32 a b) (iand .u32 a c)) (iand .u32 b c)
theorem F288_eq (R:Type) {a:Int} (ha:U32 a) (b c:Int) (k:Int→Option R):F288 R a b c k=k (IntKind.u32.wrap (sig3 a 6 11 25+chS a b c)):=by
 simp only [F288,p288,F292,p292];rw [Dw R ha (n:=6) 6 rfl (by omega) (by omega),Dw R ha (n:=11) 11 rfl (by omega) (by omega),Dw R ha (n:=25) 25 rfl (by omega) (by omega)];simp only [sig3,chS,zix b c ha]
theorem F289_eq (R:Type) {a:Int} (ha:U32 a) (b c:Int) (k:Int→Option R):F289 R a b c k=k (IntKind.u32.wrap (sig3 a 2 13 22+majS a b c)):=by
 simp only [F289,p289,F292,p292];rw [Dw R ha (n:=2) 2 rfl (by omega) (by omega),Dw R ha (n:=13) 13 rfl (by omega) (by omega),Dw R ha (n:=22) 22 rfl (by omega) (by omega)];simp only [sig3,majS,W0]
theorem zmo (R:Type) {x:Int} (hx:U32 x) {a b c:Int} (p q r:Nat) (ea:a=(p:Int)) (eb:b=(q:Int)) (ec:c=(r:Int)) (hp:p<32) (hq:q<32) (hr:r<32) (k:Int→Option R):F219 R x a b c k=k (sig3 x p q r):=by
 simp only [F219,p219];rw [Gt R hx p ea hp,Gt R hx q eb hq,Gt R hx r ec hr];simp only [sig3]
def Jl (s:List Int) (w c:Int):List Int:=
 let t:=IntKind.u32.wrap (s.getD 7 0+sig3 (s.getD 4 0) 6 11 25+chS (s.getD 4 0) (s.getD 5 0) (s.getD 6 0)+c+w)
 [IntKind.u32.wrap (t+(sig3 (s.getD 0 0) 2 13 22+majS (s.getD 0 0) (s.getD 1 0) (s.getD 2 0))),s.getD 0 0,s.getD 1 0,s.getD 2 0,IntKind.u32.wrap (s.getD 3 0+t),s.getD 4 0,s.getD 5 0,s.getD 6 0]
theorem F176_eq (R:Type) {s:List Int} (h0:U32 (s.getD 0 0)) (h4:U32 (s.getD 4 0)) (w c:Int) (k:List Int→Option R):F176 R s w c k=k (Jl s w c):=by
 have e1:=zmo R h4 (a:=6) (b:=11) (c:=25) 6 11 25 rfl rfl rfl (by omega) (by omega) (by omega);have e2:=zmo R h0 (a:=2) (b:=13) (c:=22) 2 13 22 rfl rfl rfl (by omega) (by omega) (by omega);show p176 F219 F220 F221 R s w c k=_;generalize F219=f at*;simp only [p176,e1,e2,F220,p220,F221,p221]
 congr 1
 simp only [Jl,chS,majS,List.replicate,List.set];simp only [Cv]
 congr 1
 ·omega
 ·congr 4
  omega
theorem F284_eq (R:Type) {a0 a1 a2 a3 a4 a5 a6 a7:Int} (h0:U32 a0) (h4:U32 a4) (w c:Int) (k:List Int→Option R):F284 R [a0,a1,a2,a3,a4,a5,a6,a7] w c k=k (Jl [a0,a1,a2,a3,a4,a5,a6,a7] w c):=by
 simp only [F284,p284,List.getD_cons_zero,List.getD_cons_succ];rw [F288_eq R h4,F289_eq R h0]
 congr 1
 simp [Jl,lay,List.replicate];simp only [Cv];refine ⟨?_,?_⟩<;>omega
end Go.PG
namespace Go.PG
theorem list8 {l:List Int} (h:l.length=8):∃a b c d e f g i,l=[a,b,c,d,e,f,g,i]:=by
 match l,h with
 | [a,b,c,d,e,f,g,i],_=>exact ⟨a,b,c,d,e,f,g,i,rfl⟩
def AllU8 (l:List Int):Prop:=∀x∈l,U8 x
def AllU32 (l:List Int):Prop:=∀x∈l,U32 x
def Ju (a b c d:Int):Int:=((a*256+b)*256+c)*256+d
theorem Hq (n:Nat) (h:n≤1000):∃m,FUEL=m+n:=⟨FUEL - n,by rw [Al]; omega⟩
theorem F216_eq (R:Type) {a b c d:Int} (ha:U8 a) (hb:U8 b) (hc:U8 c) (hd:U8 d) (k:Int→Option R):F216 R [a,b,c,d] k=k (Ju a b c d):=by
 obtain ⟨m,hm⟩:=Hq 5 (by omega);unfold U8 at*;simp only [F216,p216,hm,Qu,zf5];simp [bnd,Fb,Cv,Ju]
 congr 1
 omega
theorem Nf {x b:Int} (hx:0≤x∧x<16777216) (hb:U8 b):ior .u32 (ishl .u32 x 8) b=x*256+b:=by
 unfold U8 at hb;obtain ⟨n,rfl⟩:∃n:Nat,x=n:=⟨x.toNat,by omega⟩
 obtain ⟨c,rfl⟩:∃c:Nat,b=c:=⟨b.toNat,by omega⟩
 have e2:ishl .u32 (n:Int) 8=((n*256:Nat):Int):=by
  unfold ishl;rw [show (2:Int)^(min (8:Int).toNat IntKind.u32.bits)=256 by decide,Cg (by omega) (by omega)];simp
 rw [e2,Ro,BitVec.ofInt_natCast,BitVec.ofInt_natCast,BitVec.toNat_or,BitVec.toNat_ofNat,BitVec.toNat_ofNat,Nat.mod_eq_of_lt (by omega),Nat.mod_eq_of_lt (by omega)];have h6:=Nat.shiftLeft_add_eq_or_of_lt (i:=8) (b:=c) (by omega) n;rw [Nat.shiftLeft_eq] at h6;rw [show n*256=n*2^8 by rfl,←h6];simp
theorem zmk (R:Type) {a b c d:Int} (ha:U8 a) (hb:U8 b) (hc:U8 c) (hd:U8 d) (k:Int→Option R):F244 R [a,b,c,d] k=k (Ju a b c d):=by
 obtain ⟨m,hm⟩:=Hq 5 (by omega);simp only [F244,p244,hm,Qt,zf2];have w:∀x,U8 x→IntKind.u32.wrap x=x:=fun x h=>Cg h.1 (by unfold U8 at h; omega)
 simp [bnd,Fb,w a ha,w b hb,w c hc,w d hd];have u:=ha; have v:=hb; have y:=hc; have z:=hd;unfold U8 at u v y z;rw [Nf (x:=0) (by omega) ha,Nf (by omega) hb,Nf (by omega) hc,Nf (by omega) hd];simp [Ju]
theorem zh1 {a b c d:Int} (ha:U8 a) (hb:U8 b) (hc:U8 c) (hd:U8 d):U32 (Ju a b c d):=by
 unfold U8 U32 Ju at*; omega
def zo7 (blk:List Int) (i:Nat):Int:=Ju (blk.getD (4*i) 0) (blk.getD (4*i+1) 0) (blk.getD (4*i+2) 0) (blk.getD (4*i+3) 0)
def zyf (l:List Int) (i:Nat):Int:=IntKind.u32.wrap (IntKind.u32.wrap (IntKind.u32.wrap (sig2 (l.getD (i - 2) 0) 17 19 10+l.getD (i - 7) 0)+sig2 (l.getD (i - 15) 0) 7 18 3)+l.getD (i - 16) 0)
def Bz (blk l:List Int) (i:Nat):List Int:=l.set i (if i<16 then zo7 blk i else zyf l i)
def zde (blk:List Int):List Int:=(List.range' 0 64).foldl (Bz blk) (List.replicate 64 0)
theorem Au {p:Int→Prop} {l:List Int} (h:∀x∈l,p x) (h0:p 0) (i:Nat):p (l.getD i 0):=by
 rw [List.getD_eq_getElem?_getD];cases hi:l[i]? with
 | none=>exact h0
 | some x=>exact h x (List.mem_of_getElem? hi)
theorem u8_0:U8 0:=by unfold U8; omega
theorem Po:U32 0:=by unfold U32; omega
theorem AllU32.set {l:List Int} (h:AllU32 l) {i:Nat} {x:Int} (hx:U32 x):AllU32 (l.set i x):=fun y hy=>by
 rcases List.mem_or_eq_of_mem_set hy with h1 | h1
 ·exact h y h1
 ·rw [h1]; exact hx
theorem AllU32.rep (n:Nat):AllU32 (List.replicate n 0):=fun y hy=>by rw [List.eq_of_mem_replicate hy]; exact Po
theorem zo6 {blk:List Int} (h:AllU8 blk) (i:Nat):U32 (zo7 blk i):=zh1 (Au h u8_0 _) (Au h u8_0 _) (Au h u8_0 _) (Au h u8_0 _)
theorem Gd {blk l:List Int} (hb:AllU8 blk) (hl:l.length=64) (h:AllU32 l) (i:Nat):(Bz blk l i).length=64∧AllU32 (Bz blk l i):=by
 unfold Bz;refine ⟨by simpa using hl,h.set ?_⟩;split
 ·exact zo6 hb i
 ·exact Jg _
theorem take4 {l:List Int} {i:Nat} (h:i+4≤l.length):List.take 4 (List.drop i l)=[l.getD i 0,l.getD (i+1) 0,l.getD (i+2) 0,l.getD (i+3) 0]:=by
 have e0:List.drop i l=l[i]::List.drop (i+1) l:=List.drop_eq_getElem_cons (by omega);have e1:List.drop (i+1) l=l[i+1]::List.drop (i+1+1) l:=List.drop_eq_getElem_cons (by omega);have e2:List.drop (i+1+1) l=l[i+1+1]::List.drop (i+1+1+1) l:=List.drop_eq_getElem_cons (by omega);have e3:List.drop (i+1+1+1) l=l[i+1+1+1]::List.drop (i+1+1+1+1) l:=List.drop_eq_getElem_cons (by omega);rw [e0,e1,e2,e3];show [l[i],l[i+1],l[i+1+1],l[i+1+1+1]]=_;simp [show i<l.length by omega,show i+1<l.length by omega,show i+2<l.length by omega,show i+3<l.length by omega]
theorem Br {i n:Nat} (h:i<n):List.range' i (n - i)=i::List.range' (i+1) (n - (i+1)):=by
 rw [show n - i=(n - (i+1))+1 by omega,List.range'_succ]
theorem zka (R:Type) {blk:List Int} (hb:blk.length=64) (h8:AllU8 blk) (k0:List Int→Option R):∀(m i:Nat) (l:List Int),i≤64→64 - i<m→l.length=64→AllU32 l→
  Ow m R (i:Int) blk l k0=k0 ((List.range' i (64 - i)).foldl (Bz blk) l)
 | 0,i,l,_,h,_,_=>by omega
 | m+1,i,l,h1,h2,hl,hu=>by
  simp only [Ow,zfr]
  by_cases hi:i<64
  ·have ok:=Gd h8 hl hu i
   have ih:=zka R hb h8 k0 m (i+1) (Bz blk l i) (by omega) (by omega) ok.1 ok.2;rw [Br hi,List.foldl_cons,←ih];rw [wrap_i64 (n:=4*(i:Int)) (by omega) (by omega),wrap_i64 (n:=(i:Int)+1) (by omega) (by omega),wrap_i64 (n:=4*(i:Int)+4) (by omega) (by omega)];have hd:decide ((i:Int)<64)=true:=by simp; omega
   have hbn:bnd (i:Int) 64=true:=by unfold bnd; simp; omega
   by_cases h16:i<16
   ·have c1:decide (4*(i:Int)<64)=true:=by simp; omega
    have c2:decide (0≤4*(i:Int)∧4*(i:Int)≤4*(i:Int)+4∧4*(i:Int)+4≤64)=true:=by simp; omega
    have c3:decide ((4:Int)≤((Int.toNat (4*(i:Int)+4 - 4*(i:Int)):Nat):Int))=true:=by simp; omega
    have e1:(4*(i:Int)).toNat=4*i:=by omega
    simp only [hd,c1,c2,c3,e1,hbn];rw [take4 (by omega),zmk R (Au h8 u8_0 _) (Au h8 u8_0 _) (Au h8 u8_0 _) (Au h8 u8_0 _)];simp only [Bz,if_pos h16,zo7,Int.toNat_natCast];rfl
   ·have c1:decide (4*(i:Int)<64)=false:=by simp; omega
    rw [wrap_i64 (n:=(i:Int) - 2) (by omega) (by omega),wrap_i64 (n:=(i:Int) - 7) (by omega) (by omega),wrap_i64 (n:=(i:Int) - 15) (by omega) (by omega),wrap_i64 (n:=(i:Int) - 16) (by omega) (by omega)];have b2:bnd ((i:Int) - 2) 64=true:=by unfold bnd; simp; omega
    have b7:bnd ((i:Int) - 7) 64=true:=by unfold bnd; simp; omega
    have b15:bnd ((i:Int) - 15) 64=true:=by unfold bnd; simp; omega
    have b16:bnd ((i:Int) - 16) 64=true:=by unfold bnd; simp; omega
    have n2:((i:Int) - 2).toNat=i - 2:=by omega
    have n7:((i:Int) - 7).toNat=i - 7:=by omega
    have n15:((i:Int) - 15).toNat=i - 15:=by omega
    have n16:((i:Int) - 16).toNat=i - 16:=by omega
    simp only [hd,c1,hbn,b2,b7,b15,b16,n2,n7,n15,n16];rw [F286_eq R (Au hu Po _),F287_eq R (Au hu Po _)];simp only [Bz,if_neg h16,zyf,Int.toNat_natCast];rfl
  ·have:i=64:=by omega
   subst this;rfl
theorem F283_eq (R:Type) {blk:List Int} (hb:blk.length=64) (h8:AllU8 blk) (k:List Int→Option R):F283 R blk k=k (zde blk):=by
 simp only [F283,p283];exact zka R hb h8 _ FUEL 0 (List.replicate 64 0) (by omega) (by rw [Al]; omega) (by simp) (AllU32.rep 64)
theorem Vg (R:Type) {blk:List Int} (hb:blk.length=64) (h8:AllU8 blk) (x3:List Int) (k0:List Int→List Int→Option R):∀(m i:Nat) (l:List Int),i≤16→16 - i<m→l.length=64→AllU32 l→
  M0 m R (i:Int) blk x3 l k0=k0 x3 ((List.range' i (16 - i)).foldl (Bz blk) l)
 | 0,i,l,_,h,_,_=>by omega
 | m+1,i,l,h1,h2,hl,hu=>by
  simp only [M0,zgd]
  by_cases hi:i<16
  ·have ok:=Gd h8 hl hu i
   have ih:=Vg R hb h8 x3 k0 m (i+1) (Bz blk l i) (by omega) (by omega) ok.1 ok.2;rw [Br hi,List.foldl_cons,←ih];rw [wrap_i64 (n:=4*(i:Int)) (by omega) (by omega),wrap_i64 (n:=(i:Int)+1) (by omega) (by omega),wrap_i64 (n:=4*(i:Int)+1) (by omega) (by omega),wrap_i64 (n:=4*(i:Int)+2) (by omega) (by omega),wrap_i64 (n:=4*(i:Int)+3) (by omega) (by omega)];have hd:decide ((i:Int)<16)=true:=by simp; omega
   have hbn:bnd (i:Int) 64=true:=by unfold bnd; simp; omega
   have b0:bnd (4*(i:Int)) 64=true:=by unfold bnd; simp; omega
   have b1:bnd (4*(i:Int)+1) 64=true:=by unfold bnd; simp; omega
   have b2:bnd (4*(i:Int)+2) 64=true:=by unfold bnd; simp; omega
   have b3:bnd (4*(i:Int)+3) 64=true:=by unfold bnd; simp; omega
   have n0:(4*(i:Int)).toNat=4*i:=by omega
   have n1:(4*(i:Int)+1).toNat=4*i+1:=by omega
   have n2:(4*(i:Int)+2).toNat=4*i+2:=by omega
   have n3:(4*(i:Int)+3).toNat=4*i+3:=by omega
   simp only [hd,hbn,b0,b1,b2,b3,n0,n1,n2,n3,List.replicate,List.set];rw [F216_eq R (Au h8 u8_0 _) (Au h8 u8_0 _) (Au h8 u8_0 _) (Au h8 u8_0 _)];simp only [Bz,if_pos hi,zo7,Int.toNat_natCast];rfl
  ·have:i=16:=by omega
   subst this;rfl
theorem Vf (R:Type) {blk:List Int} (h8:AllU8 blk) (x2:List Int) (k0:List Int→List Int→Option R):∀(m i:Nat) (l:List Int),16≤i→i≤64→64 - i<m→l.length=64→AllU32 l→
  J8 m R (i:Int) x2 l k0=k0 x2 ((List.range' i (64 - i)).foldl (Bz blk) l)
 | 0,i,l,_,_,h,_,_=>by omega
 | m+1,i,l,h16,h1,h2,hl,hu=>by
  simp only [J8,zgc]
  by_cases hi:i<64
  ·have ok:=Gd h8 hl hu i
   have ih:=Vf R h8 x2 k0 m (i+1) (Bz blk l i) (by omega) (by omega) (by omega) ok.1 ok.2;rw [Br hi,List.foldl_cons,←ih];rw [wrap_i64 (n:=(i:Int)+1) (by omega) (by omega),wrap_i64 (n:=(i:Int) - 2) (by omega) (by omega),wrap_i64 (n:=(i:Int) - 7) (by omega) (by omega),wrap_i64 (n:=(i:Int) - 15) (by omega) (by omega),wrap_i64 (n:=(i:Int) - 16) (by omega) (by omega)];have hd:decide ((i:Int)<64)=true:=by simp; omega
   have hbn:bnd (i:Int) 64=true:=by unfold bnd; simp; omega
   have b2:bnd ((i:Int) - 2) 64=true:=by unfold bnd; simp; omega
   have b7:bnd ((i:Int) - 7) 64=true:=by unfold bnd; simp; omega
   have b15:bnd ((i:Int) - 15) 64=true:=by unfold bnd; simp; omega
   have b16:bnd ((i:Int) - 16) 64=true:=by unfold bnd; simp; omega
   have n2:((i:Int) - 2).toNat=i - 2:=by omega
   have n7:((i:Int) - 7).toNat=i - 7:=by omega
   have n15:((i:Int) - 15).toNat=i - 15:=by omega
   have n16:((i:Int) - 16).toNat=i - 16:=by omega
   simp only [hd,hbn,b2,b7,b15,b16,n2,n7,n15,n16];rw [F217_eq R (Au hu Po _),F218_eq R (Au hu Po _)];simp only [Bz,if_neg (show ¬i<16 by omega),zyf,Int.toNat_natCast];rfl
  ·have:i=64:=by omega
   subst this;rfl
theorem N0 {blk:List Int} (h8:AllU8 blk):∀(is:List Nat) (l:List Int),l.length=64→AllU32 l→(is.foldl (Bz blk) l).length=64∧AllU32 (is.foldl (Bz blk) l)
 | [],l,h1,h2=>⟨h1,h2⟩
 | i::is,l,h1,h2=>by
  have ok:=Gd h8 h1 h2 i;exact N0 h8 is _ ok.1 ok.2
theorem F175_eq (R:Type) {blk:List Int} (hb:blk.length=64) (h8:AllU8 blk) (k:List Int→Option R):F175 R blk k=k (zde blk):=by
 simp only [F175,p175];have g1:=Vg R hb h8 (List.replicate 64 0) (fun x1 x2=>J8 FUEL R 16 x1 x2 fun x3 x4=>k x4) FUEL 0 (List.replicate 64 0) (by omega) (by rw [Al]; omega) (by simp) (AllU32.rep 64);refine g1.trans ?_;have ok:=N0 h8 (List.range' 0 (16 - 0)) (List.replicate 64 0) (by simp) (AllU32.rep 64);have g2:=Vf R h8 (List.replicate 64 0) (fun _ x4=>k x4) FUEL 16 _ (by omega) (by omega) (by rw [Al]; omega) ok.1 ok.2;refine g2.trans ?_;rw [←List.foldl_append];rfl
end Go.PG
namespace Go.PG
def KS:List Int:=[1116352408,1899447441,3049323471,3921009573,961987163,1508970993,2453635748,2870763221,3624381080,310598401,607225278,1426881987,1925078388,2162078206,2614888103,3248222580,3835390401,4022224774,264347078,604807628,770255983,1249150122,1555081692,1996064986,2554220882,2821834349,2952996808,3210313671,3336571891,3584528711,113926993,338241895,666307205,773529912,1294757372,1396182291,1695183700,1986661051,2177026350,2456956037,2730485921,2820302411,3259730800,3345764771,3516065817,3600352804,4094571909,275423344,430227734,506948616,659060556,883997877,958139571,1322822218,1537002063,1747873779,1955562222,2024104815,2227730452,2361852424,2428436474,2756734187,3204031479,3329325298]
theorem F282_eq (R:Type) (k:List Int→Option R):F282 R k=k KS:=by kernel_rfl
theorem zmr (R:Type) (a:Int) (k:Int→Option R):F177 R a k=(match decide (a<0) with | true=>k 0 | false=>match decide (a>63) with | true=>k 0 | false=>match bnd a 64 with | true=>k (List.getD KS a.toNat 0) | false=>none):=by kernel_rfl
theorem F177_eq (R:Type) {i:Nat} (h:i<64) (k:Int→Option R):F177 R (i:Int) k=k (KS.getD i 0):=by
 rw [zmr];have h1:decide ((i:Int)<0)=false:=by simp
 have h2:decide ((i:Int)>63)=false:=by simp; omega
 have h3:bnd (i:Int) 64=true:=by unfold bnd; simp; omega
 simp only [h1,h2,h3,Int.toNat_natCast]
def Dg (plan s:List Int) (i:Nat):List Int:=Jl s (plan.getD i 0) (KS.getD i 0)
theorem Nv {s:List Int} (h:AllU32 s) (w c:Int):(Jl s w c).length=8∧AllU32 (Jl s w c):=by
 refine ⟨rfl,fun x hx=>?_⟩;have g:=fun i=>Au h Po i
 simp only [Jl,List.mem_cons,List.not_mem_nil,or_false] at hx;rcases hx with rfl | rfl | rfl | rfl | rfl | rfl | rfl | rfl
 ·exact Jg _
 ·exact g 0
 ·exact g 1
 ·exact g 2
 ·exact Jg _
 ·exact g 4
 ·exact g 5
 ·exact g 6
theorem ztm (R:Type) {s:List Int} (hl:s.length=8) (h:AllU32 s) (w c:Int) (k:List Int→Option R):F284 R s w c k=k (Jl s w c):=by
 obtain ⟨a0,a1,a2,a3,a4,a5,a6,a7,rfl⟩:=list8 hl;exact F284_eq R (h a0 (by simp)) (h a4 (by simp)) w c k
theorem U9 (R:Type) (plan:List Int) (x3 x4:List Int) (k0:List Int→List Int→List Int→Option R):∀(m i:Nat) (s:List Int),i≤64→64 - i<m→s.length=8→AllU32 s→
  Mt m R plan (i:Int) x3 x4 s KS k0=k0 x3 x4 ((List.range' i (64 - i)).foldl (Dg plan) s)
 | 0,i,s,_,h,_,_=>by omega
 | m+1,i,s,h1,h2,hl,hu=>by
  simp only [Mt,zfu]
  by_cases hi:i<64
  ·have ok:=Nv hu (plan.getD i 0) (KS.getD i 0)
   have ih:=U9 R plan x3 x4 k0 m (i+1) (Dg plan s i) (by omega) (by omega) ok.1 ok.2;rw [Br hi,List.foldl_cons,←ih,wrap_i64 (n:=(i:Int)+1) (by omega) (by omega)];have hd:decide ((i:Int)<64)=true:=by simp; omega
   have hbn:bnd (i:Int) 64=true:=by unfold bnd; simp; omega
   simp only [hd,hbn,Int.toNat_natCast];rw [ztm R hl hu];rfl
  ·have:i=64:=by omega
   subst this;rfl
theorem Vi (R:Type) (plan:List Int) (x2 x3:List Int) (k0:List Int→List Int→List Int→Option R):∀(m i:Nat) (s:List Int),i≤64→64 - i<m→s.length=8→AllU32 s→
  M1 m R (i:Int) x2 x3 plan s k0=k0 x2 x3 ((List.range' i (64 - i)).foldl (Dg plan) s)
 | 0,i,s,_,h,_,_=>by omega
 | m+1,i,s,h1,h2,hl,hu=>by
  simp only [M1,zgk]
  by_cases hi:i<64
  ·have ok:=Nv hu (plan.getD i 0) (KS.getD i 0)
   have ih:=Vi R plan x2 x3 k0 m (i+1) (Dg plan s i) (by omega) (by omega) ok.1 ok.2;rw [Br hi,List.foldl_cons,←ih,wrap_i64 (n:=(i:Int)+1) (by omega) (by omega)];have hd:decide ((i:Int)<64)=true:=by simp; omega
   have hbn:bnd (i:Int) 64=true:=by unfold bnd; simp; omega
   simp only [hd,hbn,Int.toNat_natCast];rw [F177_eq R hi,F176_eq R (Au hu Po _) (Au hu Po _)];rfl
  ·have:i=64:=by omega
   subst this;rfl
def Fp (a l:List Int) (i:Nat):List Int:=l.set i (IntKind.u32.wrap (l.getD i 0+a.getD i 0))
theorem zd9 {a l:List Int} (hl:l.length=8) (h:AllU32 l) (i:Nat):(Fp a l i).length=8∧AllU32 (Fp a l i):=⟨by simpa [Fp] using hl,h.set (Jg _)⟩
theorem U7 (R:Type) (a x3:List Int) (k0:List Int→List Int→Option R):∀(m i:Nat) (l:List Int),i≤8→8 - i<m→J5 m R (i:Int) a x3 l k0=k0 x3 ((List.range' i (8 - i)).foldl (Fp a) l)
 | 0,i,l,_,h=>by omega
 | m+1,i,l,h1,h2=>by
  simp only [J5,zft]
  by_cases hi:i<8
  ·have ih:=U7 R a x3 k0 m (i+1) (Fp a l i) (by omega) (by omega)
   rw [Br hi,List.foldl_cons,←ih,wrap_i64 (n:=(i:Int)+1) (by omega) (by omega)];have hd:decide ((i:Int)<8)=true:=by simp; omega
   have hbn:bnd (i:Int) 8=true:=by unfold bnd; simp; omega
   simp only [hd,hbn,Int.toNat_natCast];rfl
  ·have:i=8:=by omega
   subst this;rfl
theorem Vh (R:Type) (a x3:List Int) (k0:List Int→List Int→Option R):∀(m i:Nat) (l:List Int),i≤8→8 - i<m→J9 m R (i:Int) a x3 l k0=k0 x3 ((List.range' i (8 - i)).foldl (Fp a) l)
 | 0,i,l,_,h=>by omega
 | m+1,i,l,h1,h2=>by
  simp only [J9,zgj]
  by_cases hi:i<8
  ·have ih:=Vh R a x3 k0 m (i+1) (Fp a l i) (by omega) (by omega)
   rw [Br hi,List.foldl_cons,←ih,wrap_i64 (n:=(i:Int)+1) (by omega) (by omega)];have hd:decide ((i:Int)<8)=true:=by simp; omega
   have hbn:bnd (i:Int) 8=true:=by unfold bnd; simp; omega
   simp only [hd,hbn,Int.toNat_natCast];rfl
  ·have:i=8:=by omega
   subst this;rfl
def Wd (st blk:List Int):List Int:=(List.range' 0 8).foldl (Fp st) ((List.range' 0 64).foldl (Dg (zde blk)) st)
theorem F273_eq (R:Type) {st blk:List Int} (hl:st.length=8) (hu:AllU32 st) (hb:blk.length=64) (h8:AllU8 blk) (k:List Int→Option R):F273 R st blk k=k (Wd st blk):=by
 simp only [F273,p273];rw [F282_eq,F283_eq R hb h8];refine (U9 R (zde blk) st (List.replicate 8 0) (fun x3 x4 x5=>J5 FUEL R 0 x3 x4 x5 fun x6 x7=>k x7) FUEL 0 st (by omega) (by rw [Al]; omega) hl hu).trans ?_;exact U7 R st (List.replicate 8 0) (fun _ x7=>k x7) FUEL 0 _ (by omega) (by rw [Al]; omega)
theorem F136_eq (R:Type) {st blk:List Int} (hl:st.length=8) (hu:AllU32 st) (hb:blk.length=64) (h8:AllU8 blk) (k:List Int→Option R):F136 R st blk k=k (Wd st blk):=by
 simp only [F136,p136];rw [F175_eq R hb h8];refine (Vi R (zde blk) st (List.replicate 8 0) (fun x3 x4 x5=>J9 FUEL R 0 x3 x4 x5 fun x6 x7=>k x7) FUEL 0 st (by omega) (by rw [Al]; omega) hl hu).trans ?_;exact Vh R st (List.replicate 8 0) (fun _ x7=>k x7) FUEL 0 _ (by omega) (by rw [Al]; omega)
theorem Jk (plan:List Int):∀(is:List Nat) (s:List Int),s.length=8→AllU32 s→(is.foldl (Dg plan) s).length=8∧AllU32 (is.foldl (Dg plan) s)
 | [],s,h1,h2=>⟨h1,h2⟩
 | i::is,s,h1,h2=>by
  have ok:=Nv h2 (plan.getD i 0) (KS.getD i 0);exact Jk plan is _ ok.1 ok.2
theorem Qd (a:List Int):∀(is:List Nat) (s:List Int),s.length=8→AllU32 s→(is.foldl (Fp a) s).length=8∧AllU32 (is.foldl (Fp a) s)
 | [],s,h1,h2=>⟨h1,h2⟩
 | i::is,s,h1,h2=>by
  have ok:=zd9 (a:=a) h1 h2 i;exact Qd a is _ ok.1 ok.2
theorem Q1 {st:List Int} (blk:List Int) (hl:st.length=8) (hu:AllU32 st):(Wd st blk).length=8∧AllU32 (Wd st blk):=by
 have h:=Jk (zde blk) (List.range' 0 64) st hl hu;exact Qd st _ _ h.1 h.2
end Go.PG
namespace Go.PG
def blkF:Nat→List Int→List (List Int)
 | 0,_=>[]
 | n+1,b=>if 64≤b.length then b.take 64::blkF n (b.drop 64) else []
def Q2:Nat→List Int→List Int
 | 0,b=>b
 | n+1,b=>if 64≤b.length then Q2 n (b.drop 64) else b
def blkS (b:List Int):List (List Int):=blkF (b.length/64+1) b
def Dy (b:List Int):List Int:=Q2 (b.length/64+1) b
theorem zcg:∀(n m:Nat) (b:List Int),b.length/64<n→b.length/64<m→blkF n b=blkF m b
 | 0,_,_,h,_=>by omega
 | _,0,_,_,h=>by omega
 | n+1,m+1,b,h1,h2=>by
  simp only [blkF]
  by_cases h:64≤b.length
  ·rw [if_pos h,if_pos h,zcg n m (b.drop 64) (by rw [List.length_drop]; omega) (by rw [List.length_drop]; omega)]
  ·rw [if_neg h,if_neg h]
theorem Sy:∀(n m:Nat) (b:List Int),b.length/64<n→b.length/64<m→Q2 n b=Q2 m b
 | 0,_,_,h,_=>by omega
 | _,0,_,_,h=>by omega
 | n+1,m+1,b,h1,h2=>by
  simp only [Q2]
  by_cases h:64≤b.length
  ·rw [if_pos h,if_pos h,Sy n m (b.drop 64) (by rw [List.length_drop]; omega) (by rw [List.length_drop]; omega)]
  ·rw [if_neg h,if_neg h]
theorem F2 {b:List Int} (h:64≤b.length):blkS b=b.take 64::blkS (b.drop 64):=by
 unfold blkS;rw [show blkF (b.length/64+1) b=b.take 64::blkF (b.length/64) (b.drop 64) by simp only [blkF,if_pos h]];rw [zcg (b.length/64) ((b.drop 64).length/64+1) (b.drop 64) (by rw [List.length_drop]; omega) (by omega)]
theorem Ec {b:List Int} (h:b.length<64):blkS b=[]:=by
 unfold blkS; simp only [blkF,if_neg (show ¬64≤b.length by omega)]
theorem Eh {b:List Int} (h:64≤b.length):Dy b=Dy (b.drop 64):=by
 unfold Dy;rw [show Q2 (b.length/64+1) b=Q2 (b.length/64) (b.drop 64) by simp only [Q2,if_pos h]];rw [Sy (b.length/64) ((b.drop 64).length/64+1) (b.drop 64) (by rw [List.length_drop]; omega) (by omega)]
theorem C1 {b:List Int} (h:b.length<64):Dy b=b:=by
 unfold Dy; simp only [Q2,if_neg (show ¬64≤b.length by omega)]
theorem Jj:∀(n:Nat) (b:List Int),b.length≤n→(Dy b).length=b.length % 64∧(blkS b).length=b.length/64
 | 0,b,h=>by
  rw [C1 (by omega),Ec (by omega)];simp; omega
 | n+1,b,h=>by
  by_cases h6:64≤b.length
  ·have ih:=Jj n (b.drop 64) (by rw [List.length_drop]; omega)
   rw [Eh h6,F2 h6,ih.1,List.length_cons,ih.2,List.length_drop];omega
  ·rw [C1 (by omega),Ec (by omega)]
   simp; omega
theorem K1:∀(n:Nat) (a b:List Int),a.length≤n→blkS (a++b)=blkS a++blkS (Dy a++b)∧Dy (a++b)=Dy (Dy a++b)
 | 0,a,b,h=>by
  rw [Ec (show a.length<64 by omega),C1 (show a.length<64 by omega)];exact ⟨rfl,rfl⟩
 | n+1,a,b,h=>by
  by_cases h6:64≤a.length
  ·have ih:=K1 n (a.drop 64) b (by rw [List.length_drop]; omega)
   have hl:64≤(a++b).length:=by rw [List.length_append]; omega
   rw [F2 hl,F2 h6,Eh hl,Eh h6,List.take_append_of_le_length h6,List.drop_append_of_le_length h6,ih.1,ih.2];exact ⟨rfl,rfl⟩
  ·rw [Ec (show a.length<64 by omega),C1 (show a.length<64 by omega)]
   exact ⟨rfl,rfl⟩
theorem zkc (R:Type) (k0:List Int→List (List Int)→Option R):∀(m:Nat) (b:List Int) (acc:List (List Int)),b.length/64<m→acc.length+b.length/64≤1000000000→b.length≤100000000000→
  Oy m R b acc k0=k0 (Dy b) (acc++blkS b)
 | 0,b,acc,h,_,_=>by omega
 | m+1,b,acc,h1,h2,h3=>by
  simp only [Oy,zfv]
  by_cases h6:64≤b.length
  ·have ih:=zkc R k0 m (b.drop 64) (acc++[b.take 64]) (by rw [List.length_drop]; omega) (by rw [List.length_drop,List.length_append]; simp; omega) (by rw [List.length_drop]; omega)
   have c1:decide ((b.length:Int)≥64)=true:=by simp; omega
   have c2:decide ((64:Int)≤(b.length:Int))=true:=by simp; omega
   have c3:decide (acc.length+[b.take 64].length≤2199023255552)=true:=by simp; omega
   have c4:decide (0≤(64:Int)∧(64:Int)≤(b.length:Int)∧(b.length:Int)≤(b.length:Int)∧(b.length:Int)≤(b.length:Int))=true:=by simp; omega
   have e1:List.take (Int.toNat ((b.length:Int) - 64)) (List.drop 64 b)=List.drop 64 b:=List.take_of_length_le (by rw [List.length_drop]; omega);simp only [c1,c2,c3,c4,e1];rw [ih,F2 h6,Eh h6,List.append_assoc];rfl
  ·have c1:decide ((b.length:Int)≥64)=false:=by simp; omega
   simp only [c1];rw [Ec (by omega),C1 (by omega),List.append_nil]
theorem F272_eq (R:Type) {b:List Int} (h:b.length≤1000000000) (k:List (List Int)→List Int→Option R):F272 R b k=k (blkS b) (Dy b):=by
 simp only [F272,p272];refine (zkc R (fun x1 x2=>k x2 x1) FUEL b [] (by rw [Al]; omega) (by simp; omega) (by omega)).trans ?_;rw [List.nil_append]
end Go.PG
namespace Go.PG
abbrev Wr:=List Int×List Int×Int×Unit
def Jw (st:List Int) (bs:List (List Int)):List Int:=bs.foldl Wd st
theorem Oi:∀(n:Nat) (b:List Int),b.length≤n→AllU8 b→(∀x∈blkS b,x.length=64∧AllU8 x)∧AllU8 (Dy b)
 | 0,b,h,h8=>by
  rw [Ec (by omega),C1 (by omega)];exact ⟨fun x hx=>(by cases hx),h8⟩
 | n+1,b,h,h8=>by
  by_cases h6:64≤b.length
  ·have ih:=Oi n (b.drop 64) (by rw [List.length_drop]; omega) (fun x hx=>h8 x (List.mem_of_mem_drop hx))
   rw [F2 h6,Eh h6];refine ⟨fun x hx=>?_,ih.2⟩;rcases List.mem_cons.1 hx with rfl | hx
   ·exact ⟨by rw [List.length_take]; omega,fun y hy=>h8 y (List.mem_of_mem_take hy)⟩
   ·exact ih.1 x hx
  ·rw [Ec (by omega),C1 (by omega)]
   exact ⟨fun x hx=>(by cases hx),h8⟩
theorem Jv:∀(bs:List (List Int)) {st:List Int},st.length=8→AllU32 st→(Jw st bs).length=8∧AllU32 (Jw st bs)
 | [],st,h1,h2=>⟨h1,h2⟩
 | b::bs,st,h1,h2=>by
  have ok:=Q1 b h1 h2;exact Jv bs ok.1 ok.2
theorem zkg (R:Type) (rest:List Int) (bs:List (List Int)) (hb:∀x∈bs,x.length=64∧AllU8 x) (hn:bs.length≤1000000000) (u:List Int×Int×Unit) (k0:List Int→(Wr×Unit)→Option R):
  ∀(m i:Nat) (st:List Int),i≤bs.length→bs.length - i<m→st.length=8→AllU32 st→O0 m R rest bs (bs.length:Int) (i:Int) ((st,u),()) k0=k0 rest ((Jw st (bs.drop i),u),())
 | 0,i,st,_,h,_,_=>by omega
 | m+1,i,st,h1,h2,hl,hu=>by
  simp only [O0,zfz]
  by_cases hi:i<bs.length
  ·have hd:decide ((i:Int)<(bs.length:Int))=true:=by simpa using hi
   have hbn:bnd (i:Int) (bs.length:Int)=true:=by unfold bnd; simp; omega
   have hx:=hb bs[i] (List.getElem_mem hi);have hg:List.getD bs i (List.replicate 64 0)=bs[i]:=by simp [hi]
   simp only [hd,hbn,Int.toNat_natCast,hg];rw [F273_eq R hl hu hx.1 hx.2,wrap_i64 (by omega) (by omega)];have ok:=Q1 bs[i] hl hu;have ih:=zkg R rest bs hb hn u k0 m (i+1) (Wd st bs[i]) (by omega) (by omega) ok.1 ok.2;rw [List.drop_eq_getElem_cons hi];exact ih
  ·have:i=bs.length:=by omega
   subst this;have hd:decide ((bs.length:Int)<(bs.length:Int))=false:=by simp
   simp only [hd];rw [List.drop_of_length_le (Nat.le_refl _)];rfl
theorem zmj (R:Type) {st:List Int} (u:List Int×Int×Unit) {b:List Int} (hl:st.length=8) (hu:AllU32 st) (h8:AllU8 b) (hn:b.length≤1000000000) (k:List Int→(Wr×Unit)→Option R):
  F254 R ((st,u),()) b k=k (Dy b) ((Jw st (blkS b),u),()):=by
 simp only [F254,p254];rw [F272_eq R hn];have ok:=Oi b.length b (Nat.le_refl _) h8;have hlen:=(Jj b.length b (Nat.le_refl _)).2;exact zkg R (Dy b) (blkS b) ok.1 (by omega) u (fun x4 x5=>k x4 x5) FUEL 0 st (by omega) (by rw [Al]; omega) hl hu
theorem F251_eq (R:Type) {st rest part:List Int} {n:Nat} (hl:st.length=8) (hu:AllU32 st) (hr:AllU8 rest) (hp:AllU8 part) (hlen:rest.length+part.length≤1000000000) (hn:n+part.length≤1000000000) (k:(Wr×Unit)→Option R):
  F251 R ((st,rest,(n:Int),()),()) part k=k ((Jw st (blkS (rest++part)),Dy (rest++part),((n+part.length:Nat):Int),()),()):=by
 simp only [F251,p251,F270];rw [Ai (n:=(part.length:Int)) (by omega) (by omega),Ai (by omega) (by omega)];have c1:decide (([]:List Int).length+rest.length≤140737488355328)=true:=by simp; omega
 have c2:decide (rest.length+part.length≤140737488355328)=true:=by simp; omega
 simp only [c1,c2];have h8:AllU8 (rest++part):=fun x hx=>by
  rcases List.mem_append.1 hx with h | h
  ·exact hr x h
  ·exact hp x h
 rw [zmj R _ hl hu h8 (by rw [List.length_append]; omega)]
 congr 1
def wrS (st m:List Int):Wr:=(Jw st (blkS m),Dy m,(m.length:Int),())
theorem AllU8.append {a b:List Int} (ha:AllU8 a) (hb:AllU8 b):AllU8 (a++b):=fun x hx=>by
 rcases List.mem_append.1 hx with h | h
 ·exact ha x h
 ·exact hb x h
theorem zc4 (st m p:List Int):Jw (Jw st (blkS m)) (blkS (Dy m++p))=Jw st (blkS (m++p))∧Dy (Dy m++p)=Dy (m++p):=by
 obtain ⟨h1,h2⟩:=K1 m.length m p (Nat.le_refl _);rw [h1,h2];refine ⟨?_,rfl⟩;unfold Jw;rw [List.foldl_append]
theorem zkl (R:Type) {st:List Int} (hl:st.length=8) (hu:AllU32 st) (x4:Wr) (k0:Int→Wr→Option R) (k1:Wr→(Wr×Unit)→Option R):∀(n:Nat) (ps done:List (List Int)) (m:List Int),m=done.flatten→AllU8 m→(∀p∈ps,AllU8 p)→
  m.length+ps.flatten.length≤500000000→(done++ps).length≤1000000000→ps.length<n→Mx n R (done++ps) ((done++ps).length:Int) (done.length:Int) x4 (wrS st m,()) k0 k1=k1 x4 (wrS st (m++ps.flatten),())
 | 0,ps,done,m,_,_,_,_,_,h=>by omega
 | n+1,[],done,m,hm,h8,hps,hlen,hnum,h=>by
  simp only [Mx,zbo];have hd:decide ((done.length:Int)<((done++[]).length:Int))=false:=by simp
  simp only [hd];simp
 | n+1,p::ps,done,m,hm,h8,hps,hlen,hnum,h=>by
  simp only [Mx,zbo];have hlt:done.length<(done++p::ps).length:=by simp
  have hd:decide ((done.length:Int)<((done++p::ps).length:Int))=true:=by simp; omega
  have hbn:bnd (done.length:Int) ((done++p::ps).length:Int)=true:=by unfold bnd; simp; omega
  have hg:List.getD (done++p::ps) done.length []=p:=by simp
  have hp8:=hps p (by simp);have hfl:(p::ps).flatten=p++ps.flatten:=by simp
  rw [hfl,List.length_append] at hlen;have ok:=Jv (blkS m) hl hu;have ok2:=Oi m.length m (Nat.le_refl _) h8;have tl:=(Jj m.length m (Nat.le_refl _)).1;simp only [hd,hbn,Int.toNat_natCast,hg];unfold wrS;rw [F251_eq R ok.1 ok.2 ok2.2 hp8 (by omega) (by omega)];obtain ⟨a1,a2⟩:=zc4 st m p;rw [a1,a2,←List.length_append];have hb:decide (((m++p).length:Int)≥2305843009213693952)=false:=by simp; omega
  simp only [hb];rw [wrap_i64 (by omega) (by simp at hnum; omega)];have ih:=zkl R hl hu x4 k0 k1 n ps (done++[p]) (m++p) (by rw [hm]; simp) (h8.append hp8) (fun q hq=>hps q (by simp [hq])) (by rw [List.length_append]; omega) (by simpa using hnum) (by simp at h; omega);unfold wrS at ih;rw [hfl,←List.append_assoc];have e1:done++[p]++ps=done++p::ps:=by simp
  have e2:(((done++[p]).length:Nat):Int)=(done.length:Int)+1:=by simp
  rw [e1,e2] at ih;exact ih
theorem F225_eq (R:Type) {st:List Int} (hl:st.length=8) (hu:AllU32 st) {ps:List (List Int)} (h8:∀p∈ps,AllU8 p) (hlen:ps.flatten.length≤500000000) (hnum:ps.length≤1000000000) (k:Wr→Int→Option R):
  F225 R (st,[],(0:Int),()) ps k=k (wrS st ps.flatten) 0:=by
 have hr:F250 R (st,[],(0:Int),())=fun k=>k true:=by
  funext k
  simp only [F250,p250];rfl
 simp only [F225,p225];rw [hr];have:=zkl R hl hu (List.replicate 8 0,[],0,()) (fun x3 x4=>k x4 x3) (fun _ x6=>k x6.1 0) FUEL ps [] [] rfl (fun x hx=>by cases hx) h8 (by simpa using hlen) (by simpa using hnum) (by rw [Al]; omega);rw [List.nil_append] at this;refine Eq.trans ?_ this;unfold wrS;rw [Ec (by simp),C1 (by simp)];rfl
end Go.PG
namespace Go.PG
def putS (x:Int):List Int:=[x/72057594037927936 % 256,x/281474976710656 % 256,x/1099511627776 % 256,x/4294967296 % 256,x/16777216 % 256,x/65536 % 256,x/256 % 256,x % 256]
theorem zx0 {x:Int} (r:Nat) (hr:r≤64):ishr .u64 x (r:Int)=x/2^r:=by
 unfold ishr;rw [show IntKind.u64.bits=64 from rfl,show ((r:Int).toNat)=r by simp,Nat.min_eq_left hr,Int.fdiv_eq_ediv_of_nonneg _ (by have:=two_pow_pos r; omega)]
theorem zkn (R:Type) (x:Int) (k0:List Int→Option R):∀(m i:Nat) (l:List Int),i≤8→8 - i<m→O5 m R x (i:Int) l k0=k0 ((List.range' i (8 - i)).foldl (fun l i=>l.set i (x/2^(8*(7 - i)) % 256)) l)
 | 0,i,l,_,h=>by omega
 | m+1,i,l,h1,h2=>by
  simp only [O5,zf7]
  by_cases hi:i<8
  ·have ih:=zkn R x k0 m (i+1) (l.set i (x/2^(8*(7 - i)) % 256)) (by omega) (by omega)
   rw [Br hi,List.foldl_cons,←ih];have hd:decide ((i:Int)<8)=true:=by simp; omega
   have hbn:bnd (i:Int) 8=true:=by unfold bnd; simp; omega
   rw [wrap_i64 (n:=7 - (i:Int)) (by omega) (by omega),wrap_i64 (n:=8*(7 - (i:Int))) (by omega) (by omega),Ai (n:=8*(7 - (i:Int))) (by omega) (by omega),wrap_i64 (n:=(i:Int)+1) (by omega) (by omega)];have e1:8*(7 - (i:Int))=((8*(7 - i):Nat):Int):=by omega
   have hp:decide ((0:Int)≤((8*(7 - i):Nat):Int))=true:=decide_eq_true (by omega);rw [e1,zx0 _ (by omega),Er];simp only [hd,hbn,hp,Int.toNat_natCast];rfl
  ·have:i=8:=by omega
   subst this;rfl
theorem Pk (R:Type) (x:Int) (k:List Int→Option R):F203 R x k=k (putS x):=by
 simp only [F203,p203];refine (zkn R x (fun x1=>k x1) FUEL 0 (List.replicate 8 0) (by omega) (by rw [Al]; omega)).trans ?_
 congr 1
 simp [List.range'_succ,putS,List.replicate]
theorem zux (R:Type) {x:Int} (hx:0≤x∧x<18446744073709551616) (x3:List Int) (k0:List Int→List Int→Option R):∀(i m:Nat) (l:List Int),i≤8→i<m→U6 m R (x/2^(8*(8 - i))) ((i:Int) - 1) x3 l k0=k0 x3 ((List.range i).reverse.foldl (fun l j=>l.set j (x/2^(8*(7 - j)) % 256)) l)
 | i,0,l,_,h=>by omega
 | 0,m+1,l,h1,h2=>by
  simp only [U6,zpv];have hd:decide (((0:Nat):Int) - 1≥0)=false:=by simp
  simp only [hd];rfl
 | i+1,m+1,l,h1,h2=>by
  simp only [U6,zpv];have ih:=zux R hx x3 k0 i m (l.set i (x/2^(8*(7 - i)) % 256)) (by omega) (by omega);rw [List.range_succ,List.reverse_append,List.reverse_singleton,List.singleton_append,List.foldl_cons,←ih];have e0:(((i+1:Nat):Int) - 1)=(i:Int):=by omega
  rw [e0];have hd:decide ((i:Int)≥0)=true:=by simp
  have hbn:bnd (i:Int) 8=true:=by unfold bnd; simp; omega
  have e1:8 - (i+1)=7 - i:=by omega
  rw [e1];have hp:=two_pow_pos (8*(7 - i));have hge:0≤x/2^(8*(7 - i)):=Int.ediv_nonneg hx.1 (by omega);have hle:x/2^(8*(7 - i))≤x:=Int.ediv_le_self _ hx.1;have hstep:x/2^(8*(8 - i))=x/2^(8*(7 - i))/256:=by
   rw [show 8*(8 - i)=8*(7 - i)+8 by omega,Int.pow_add,←Int.ediv_ediv_of_nonneg (by omega)];rfl
  rw [hstep];generalize x/2^(8*(7 - i))=q at*;rw [Int.tmod_eq_emod_of_nonneg hge,Int.tdiv_eq_ediv_of_nonneg hge,zeo (by omega) (by omega),Ai (by omega) (by omega),wrap_i64 (by omega) (by omega)];simp only [hd,hbn,Int.toNat_natCast]
theorem zvs (R:Type) {x:Int} (hx:0≤x∧x<18446744073709551616) (k:List Int→Option R):F47 R x k=k (putS x):=by
 simp only [F47,p47];have:=zux R hx (List.replicate 8 0) (fun _ x2=>k x2) 8 FUEL (List.replicate 8 0) (by omega) (by rw [Al]; omega);rw [show x/2^(8*(8 - 8))=x by simp] at this;refine Eq.trans this ?_
 congr 1
 simp [List.range_succ,putS,List.replicate]
end Go.PG
namespace Go.PG
def Ck (n:Nat):Nat:=(119 - n % 64) % 64
def padT (rest:List Int) (n:Nat):List Int:=rest++128::(List.replicate (Ck n) 0++putS (8*(n:Int)))
theorem Vk (R:Type) (x:Int) (k0:Int→List Int→Option R):∀(z m:Nat) (l:List Int),z<64→(l.length+z) % 64=56→(∀y,y<z→(l.length+y) % 64≠56)→z<m→l.length+z≤100000→Kb m R x l k0=k0 x (l++List.replicate z 0)
 | z,0,l,_,_,_,h,_=>by omega
 | 0,m+1,l,h1,h2,_,h3,h4=>by
  simp only [Kb,zbs];have hm:Int.tmod (l.length:Int) 64=56:=by rw [Int.tmod_eq_emod_of_nonneg (by omega)]; omega
  rw [hm];have:((56:Int) !=56)=false:=by simp
  simp only [this];simp
 | z+1,m+1,l,h1,h2,h5,h3,h4=>by
  simp only [Kb,zbs];have hne:(Int.tmod (l.length:Int) 64 !=56)=true:=by
   rw [Int.tmod_eq_emod_of_nonneg (by omega)];have:=h5 0 (by omega);simp; omega
  have hc:decide (l.length+[(0:Int)].length≤140737488355328)=true:=by simp; omega
  have ih:=Vk R x k0 z m (l++[0]) (by omega) (by rw [List.length_append]; simp; omega) (fun y hy=>by rw [List.length_append]; have:=h5 (y+1) (by omega); simp; omega) (by omega) (by rw [List.length_append]; simp; omega);simp only [hne,hc];rw [ih,List.append_assoc];rfl
theorem Vj (R:Type) (ds:List Int) (k0:List Int→Option R):∀(m i:Nat) (l:List Int),i≤8→8 - i<m→ds.length=8→l.length≤100000+i→Ka m R (i:Int) l ds k0=k0 (l++ds.drop i)
 | 0,i,l,_,h,_,_=>by omega
 | m+1,i,l,h1,h2,hd8,hl=>by
  simp only [Ka,zgl]
  by_cases hi:i<8
  ·have hd:decide ((i:Int)<8)=true:=by simp; omega
   have hbn:bnd (i:Int) 8=true:=by unfold bnd; simp; omega
   have hg:List.getD ds i 0=ds[i]:=by simp [show i<ds.length by omega]
   have hc:decide (l.length+[ds[i]].length≤140737488355328)=true:=by simp; omega
   have ih:=Vj R ds k0 m (i+1) (l++[ds[i]]) (by omega) (by omega) hd8 (by rw [List.length_append]; simp; omega);simp only [hd,hbn,Int.toNat_natCast,hg,hc];rw [wrap_i64 (by omega) (by omega),List.drop_eq_getElem_cons (show i<ds.length by omega)];rw [List.append_assoc] at ih;exact ih
  ·have:i=8:=by omega
   subst this;have hd:decide (((8:Nat):Int)<8)=false:=by simp
   simp only [hd];rw [List.drop_of_length_le (by omega),List.append_nil]
theorem F134_eq (R:Type) {rest:List Int} {n:Nat} (hr:rest.length=n % 64) (hn:n≤1000000000) (k:List Int→Bool→Option R):F134 R rest (n:Int) k=k (padT rest n) true:=by
 simp only [F134,p134];have c0:decide ((n:Int)≥2305843009213693952)=false:=by simp; omega
 have c1:(IntKind.u64.wrap (rest.length:Int) !=Int.tmod (n:Int) 64)=false:=by
  rw [Ai (by omega) (by omega),Int.tmod_eq_emod_of_nonneg (by omega)];simp; omega
 have c2:decide (([]:List Int).length+rest.length≤140737488355328)=true:=by simp; omega
 have c3:decide (([]++rest).length+[(128:Int)].length≤140737488355328)=true:=by simp; omega
 simp only [c0,c1,c2,c3];have g:=Vk R (n:Int) (fun x10 x11=>F47 R (IntKind.u64.wrap (8*x10)) fun y13=>Ka FUEL R 0 x11 y13 fun x14=>k x14 true) (Ck n) FUEL ([]++rest++[128]) (by unfold Ck; omega) (by simp; unfold Ck; omega) (fun y hy=>by simp; unfold Ck at hy; omega) (by rw [Al]; unfold Ck; omega) (by simp; unfold Ck; omega);refine g.trans ?_;rw [Ai (by omega) (by omega),zvs R (by omega)];refine (Vj R (putS (8*(n:Int))) (fun x14=>k x14 true) FUEL 0 _ (by omega) (by rw [Al]; omega) rfl (by simp; unfold Ck; omega)).trans ?_
 congr 1
 simp [padT]
theorem F271_eq (R:Type) {n:Nat} (hn:n≤1000000000) (k:Int→Option R):F271 R (n:Int) k=k (((n+72)/64:Nat):Int):=by
 simp only [F271,p271];have c0:decide ((n:Int)≥2305843009213693952)=false:=by simp; omega
 simp only [c0];rw [Ai (n:=(n:Int)+8) (by omega) (by omega),Ai (n:=(n:Int)+8+64) (by omega) (by omega),Int.tdiv_eq_ediv_of_nonneg (by omega),Ai (by omega) (by omega)]
 congr 1
theorem lay_mid {a b c xs:List Int} (h:xs.length=b.length):lay (a++b++c) a.length xs=a++xs++c:=by
 unfold lay;have e1:List.take a.length (a++b++c)=a:=by rw [List.append_assoc,List.take_left]
 have e2:List.drop (a.length+xs.length) (a++b++c)=c:=by
  rw [h,show a.length+b.length=(a++b).length by simp,List.drop_left]
 rw [e1,e2]
theorem F253_eq (R:Type) {rest:List Int} {n:Nat} (hr:rest.length=n % 64) (hn:n≤1000000000) (k:List Int→Bool→Option R):F253 R rest (n:Int) k=k (padT rest n) true:=by
 simp only [F253,p253];have c0:decide ((n:Int)≥2305843009213693952)=false:=by simp; omega
 have c1:(IntKind.u64.wrap (rest.length:Int) !=Int.tmod (n:Int) 64)=false:=by
  rw [Ai (by omega) (by omega),Int.tmod_eq_emod_of_nonneg (by omega)];simp; omega
 simp only [c0,c1];rw [F271_eq R hn,Int.tdiv_eq_ediv_of_nonneg (by omega),Ai (n:=(n:Int)/64) (by omega) (by omega),Ai (by omega) (by omega),wrap_i64 (n:=(((n+72)/64:Nat):Int) - (n:Int)/64) (by omega) (by omega),wrap_i64 (n:=_*64) (by omega) (by omega)];obtain ⟨sz,hsz⟩:∃sz:Nat,((((n+72)/64:Nat):Int) - (n:Int)/64)*64=sz:=⟨((n+72)/64 - n/64)*64,by omega⟩
 have hz:sz=rest.length+1+Ck n+8:=by unfold Ck; omega
 rw [hsz];have l1:lay (List.replicate sz (0:Int)) 0 (List.take (List.replicate sz (0:Int)).length rest)=rest++List.replicate (1+Ck n+8) 0:=by
  unfold lay;rw [List.take_of_length_le (l:=rest) (by simp; omega)];simp;omega
 have l2:List.set (rest++List.replicate (1+Ck n+8) 0) rest.length 128=(rest++128::List.replicate (Ck n) 0)++List.replicate 8 0++[]:=by
  rw [List.set_append_right _ _ (Nat.le_refl _),Nat.sub_self,show 1+Ck n+8=(Ck n+8)+1 by omega,List.replicate_succ,List.set_cons_zero,←List.replicate_append_replicate];simp
 have sh:ishl .u64 (n:Int) 3=8*(n:Int):=by
  unfold ishl;rw [show (2:Int)^(min (3:Int).toNat IntKind.u64.bits)=8 by decide,Ai (by omega) (by omega)];omega
 have hl3:((rest++128::List.replicate (Ck n) 0)++List.replicate 8 (0:Int)++[]).length=sz:=by simp; omega
 have d1:decide (0≤(sz:Int)∧(sz:Int)≤(sz:Int)∧(sz:Int)≤140737488355328)=true:=decide_eq_true (by omega);have d2:bnd (rest.length:Int) ((rest++List.replicate (1+Ck n+8) (0:Int)).length:Int)=true:=by unfold bnd; simp; omega
 have d3:decide (0≤(sz:Int) - 8∧(sz:Int) - 8≤(sz:Int)∧(sz:Int)≤(sz:Int)∧(sz:Int)≤(sz:Int))=true:=decide_eq_true (by omega);have e8:((sz:Int) - 8).toNat=(rest++128::List.replicate (Ck n) 0).length:=by simp; omega
 have e9:List.take ((sz:Int) - ((sz:Int) - 8)).toNat (List.take 8 (List.drop 0 (putS (8*(n:Int)))))=putS (8*(n:Int)):=by
  rw [show ((sz:Int) - ((sz:Int) - 8)).toNat=8 by omega]; rfl
 simp only [d1,Int.toNat_natCast,l1,d2,l2,sh];rw [Pk,wrap_i64 (by omega) (by omega)];simp only [hl3,d3,e9,e8];rw [lay_mid (by rfl)]
 congr 1
 simp [padT]
end Go.PG
namespace Go.PG
def B8 (a:Int):List Int:=[a/16777216 % 256,a/65536 % 256,a/256 % 256,a % 256]
theorem zai (R:Type) {a:Int} (ha:U32 a) (k:List Int→Option R):F242 R a k=k (B8 a):=by
 have e24:ishr .u32 a 24=a/16777216:=zbc ha (r:=24) (by omega);have e16:ishr .u32 a 16=a/65536:=zbc ha (r:=16) (by omega);have e8:ishr .u32 a 8=a/256:=zbc ha (r:=8) (by omega);simp only [F242,p242,e24,e16,e8,Er];rfl
theorem F135_eq (R:Type) {a:Int} (ha:U32 a) (k:List Int→Option R):F135 R a k=k (B8 a):=by
 have h:=ha;unfold U32 at h;simp only [F135,p135];rw [Int.tdiv_eq_ediv_of_nonneg h.1,Int.tdiv_eq_ediv_of_nonneg h.1,Int.tdiv_eq_ediv_of_nonneg h.1,Cg (n:=a/16777216) (by omega) (by omega),Cg (n:=a/65536) (by omega) (by omega),Cg (n:=a/256) (by omega) (by omega)];rw [Int.tmod_eq_emod_of_nonneg (a:=a/65536) (by omega),Int.tmod_eq_emod_of_nonneg (a:=a/256) (by omega),Int.tmod_eq_emod_of_nonneg h.1];simp only [Er,Int.emod_emod];rfl
theorem zus (R:Type) (bs:List (List Int)) (hb:∀x∈bs,x.length=64∧AllU8 x) (hn:bs.length≤1000000000) (x4:List Int) (k0:List Int→List Int→Option R):
  ∀(m i:Nat) (st:List Int),i≤bs.length→bs.length - i<m→st.length=8→AllU32 st→Yx m R bs (i:Int) st x4 k0=k0 (Jw st (bs.drop i)) x4
 | 0,i,st,_,h,_,_=>by omega
 | m+1,i,st,h1,h2,hl,hu=>by
  simp only [Yx,zyh]
  by_cases hi:i<bs.length
  ·have hd:decide ((i:Int)<(bs.length:Int))=true:=by simpa using hi
   have hbn:bnd (i:Int) (bs.length:Int)=true:=by unfold bnd; simp; omega
   have hx:=hb bs[i] (List.getElem_mem hi);have hg:List.getD bs i (List.replicate 64 0)=bs[i]:=by simp [hi]
   simp only [hd,hbn,Int.toNat_natCast,hg];rw [F136_eq R hl hu hx.1 hx.2,wrap_i64 (by omega) (by omega)];have ok:=Q1 bs[i] hl hu;have ih:=zus R bs hb hn x4 k0 m (i+1) (Wd st bs[i]) (by omega) (by omega) ok.1 ok.2;rw [List.drop_eq_getElem_cons hi];exact ih
  ·have:i=bs.length:=by omega
   subst this;have hd:decide ((bs.length:Int)<(bs.length:Int))=false:=by simp
   simp only [hd];rw [List.drop_of_length_le (Nat.le_refl _)];rfl
theorem F93_eq (R:Type) {st:List Int} {bs:List (List Int)} (hl:st.length=8) (hu:AllU32 st) (hb:∀x∈bs,x.length=64∧AllU8 x) (hn:bs.length≤1000000000) (k:List Int→Option R):F93 R st bs k=k (Jw st bs):=by
 simp only [F93,p93];exact zus R bs hb hn (List.replicate 8 0) (fun x1 _=>k x1) FUEL 0 st (by omega) (by rw [Al]; omega) hl hu
def H0:List Int:=[1779033703,3144134277,1013904242,2773480762,1359893119,2600822924,528734635,1541459225]
theorem F94_eq (R:Type) (k:List Int→Option R):F94 R k=k H0:=by kernel_rfl
theorem F226_eq (R:Type) (k:Wr→Option R):F226 R k=k (H0,[],0,()):=by kernel_rfl
theorem U2:H0.length=8∧AllU32 H0:=⟨rfl,fun x hx=>by
 simp only [H0,List.mem_cons,List.not_mem_nil,or_false] at hx;unfold U32;omega⟩
def Fm (st l:List Int) (i:Nat):List Int:=lay l (4*i) (B8 (st.getD i 0))
theorem zhn {l xs:List Int} {lo:Nat} (h:lo+xs.length≤l.length):(lay l lo xs).length=l.length:=by
 unfold lay; simp; omega
theorem zkf (R:Type) {st:List Int} (hu:AllU32 st) (w:Wr×Unit) (k0:(Wr×Unit)→List Int→Option R):∀(m i:Nat) (l:List Int),i≤8→8 - i<m→Oz m R st (i:Int) w l k0=k0 w ((List.range' i (8 - i)).foldl (Fm st) l)
 | 0,i,l,_,h=>by omega
 | m+1,i,l,h1,h2=>by
  simp only [Oz,zfy]
  by_cases hi:i<8
  ·have ih:=zkf R hu w k0 m (i+1) (Fm st l i) (by omega) (by omega)
   rw [Br hi,List.foldl_cons,←ih];have hd:decide ((i:Int)<8)=true:=by simp; omega
   have hbn:bnd (i:Int) 8=true:=by unfold bnd; simp; omega
   rw [wrap_i64 (n:=4*(i:Int)) (by omega) (by omega),wrap_i64 (n:=(i:Int)+1) (by omega) (by omega)];have c:decide (0≤4*(i:Int)∧4*(i:Int)≤32∧(32:Int)≤32)=true:=decide_eq_true (by omega);have e1:(4*(i:Int)).toNat=4*i:=by omega
   have e2:∀a,List.take (Int.toNat (32 - 4*(i:Int))) (List.take 4 (List.drop 0 (B8 a)))=B8 a:=fun a=>by
    rw [List.take_of_length_le (l:=List.take 4 (List.drop 0 (B8 a))) (by simp [B8]; omega)];rfl
   simp only [hd,hbn,c,Int.toNat_natCast];rw [zai R (Au hu Po _)];simp only [c,e1,e2];rfl
  ·have:i=8:=by omega
   subst this;rfl
end Go.PG
end
