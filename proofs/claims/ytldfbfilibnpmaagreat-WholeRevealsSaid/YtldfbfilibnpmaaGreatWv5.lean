/- A part of the proof over this seat (own work; the framework that reads a Go function as a pure one, or a use of it). No condition of its own. -/
import Derived.Test.YtldfbfilibnpmaaGreatWv4
import Derived.Test.YtldfbfilibnpmaaGreatProg
import Derived.KernelRfl
set_option linter.unusedVariables false
set_option linter.unusedSimpArgs false
set_option linter.unusedSectionVars false
noncomputable section
set_option maxRecDepth 100000
namespace Go.PG
open Go.Proofs
abbrev LI:=List Int
abbrev Kq1:Kd:=(.pair .fn (.pair .fn .unit))
abbrev Tq1:Type:=(FnV×(FnV×Unit))
abbrev Kq2:Kd:=(.pair (.int .i64) Kq1)
abbrev Tq2:Type:=(Int×Tq1)
abbrev Kq3:Kd:=(.pair (.arr 32 (.int .u8)) (.pair (.int .i64) .unit))
abbrev Tq3:Type:=(LI×(Int×Unit))
abbrev Kq4:Kd:=(.pair (.int .u64) Kq3)
abbrev Tq4:Type:=(Int×Tq3)
abbrev Kq5:Kd:=(.pair (.int .i64) Kq4)
abbrev Tq5:Type:=(Int×Tq4)
abbrev Kq6:Kd:=(.pair (.int .i64) Kq5)
abbrev Tq6:Type:=(Int×Tq5)
abbrev Kq7:Kd:=(.pair .bool (.pair (.arr 32 (.int .u8)) .unit))
abbrev Tq7:Type:=(Bool×(LI×Unit))
abbrev Kq8:Kd:=(.pair (.arr 32 (.int .u8)) Kq7)
abbrev Tq8:Type:=(LI×Tq7)
abbrev Kq9:Kd:=(.pair (.int .i64) Kq8)
abbrev Tq9:Type:=(Int×Tq8)
abbrev Kq10:Kd:=(.pair (.int .u64) (.pair (.int .u64) .unit))
abbrev Tq10:Type:=(Int×(Int×Unit))
abbrev Kq11:Kd:=(.pair (.arr 32 (.int .u8)) Kq10)
abbrev Tq11:Type:=(LI×Tq10)
abbrev Tq12:Type:=(LI×Int)
abbrev Kq13:Kd:=(.pair (.int .u64) (.pair (.int .i64) .unit))
abbrev Tq13:Type:=(Int×(Int×Unit))
abbrev Tq14:Type:=(Int×FnV)
abbrev Kq15:Kd:=(.pair (.sl (.int .i64)) (.pair (.arr 32 (.int .u8)) .unit))
abbrev Tq15:Type:=(LI×(LI×Unit))
abbrev Kq16:Kd:=(.pair (.int .u64) Kq15)
abbrev Tq16:Type:=(Int×Tq15)
abbrev Kq17:Kd:=(.pair (.int .i64) Kq16)
abbrev Tq17:Type:=(Int×Tq16)
abbrev Kq18:Kd:=(.pair (.int .i64) (.pair (.int .i64) .unit))
abbrev Tq18:Type:=(Int×(Int×Unit))
abbrev Kq19:Kd:=(.pair (.int .i64) Kq18)
abbrev Tq19:Type:=(Int×Tq18)
abbrev Kq20:Kd:=(.pair (.int .i64) Kq19)
abbrev Tq20:Type:=(Int×Tq19)
abbrev Kq21:Kd:=(.pair (.int .i64) Kq20)
abbrev Tq21:Type:=(Int×Tq20)
abbrev Kq22:Kd:=(.pair (.arr 32 (.int .u8)) (.pair (.sl Kq9) .unit))
abbrev Tq22:Type:=(LI×((List Tq9)×Unit))
abbrev Kq23:Kd:=(.pair (.arr 32 (.int .u8)) Kq22)
abbrev Tq23:Type:=(LI×Tq22)
abbrev Kq24:Kd:=(.pair (.int .u64) Kq23)
abbrev Tq24:Type:=(Int×Tq23)
abbrev Kq25:Kd:=(.pair (.sl (.int .i64)) (.pair (.sl (.int .i64)) .unit))
abbrev Tq25:Type:=(LI×(LI×Unit))
abbrev Kq26:Kd:=(.pair Kq24 Kq25)
abbrev Tq26:Type:=(Tq24×Tq25)
abbrev Kq27:Kd:=(.pair (.sl Kq11) Kq26)
abbrev Tq27:Type:=((List Tq11)×Tq26)
abbrev Kq28:Kd:=(.pair (.int .i64) Kq27)
abbrev Tq28:Type:=(Int×Tq27)
abbrev Kq29:Kd:=(.pair Kq21 Kq28)
abbrev Tq29:Type:=(Tq21×Tq28)
abbrev Kq30:Kd:=(.pair Kq17 .unit)
abbrev Tq30:Type:=(Tq17×Unit)
abbrev Kq31:Kd:=(.pair Kq29 Kq30)
abbrev Tq31:Type:=(Tq29×Tq30)
abbrev Kq32:Kd:=(.pair (.sl (.int .u8)) (.pair (.int .u64) .unit))
abbrev Tq32:Type:=(LI×(Int×Unit))
abbrev Kq33:Kd:=(.pair (.arr 8 (.int .u32)) Kq32)
abbrev Tq33:Type:=(LI×Tq32)
abbrev Kq34:Kd:=(.pair Kq33 .unit)
abbrev Tq34:Type:=(Tq33×Unit)
abbrev Kq35:Kd:=(.pair (.arr 32 (.int .u8)) (.pair (.arr 32 (.int .u8)) .unit))
abbrev Tq35:Type:=(LI×(LI×Unit))
abbrev Kq36:Kd:=(.pair (.arr 32 (.int .u8)) Kq35)
abbrev Tq36:Type:=(LI×Tq35)
abbrev Kq37:Kd:=(.pair (.int .u64) Kq36)
abbrev Tq37:Type:=(Int×Tq36)
abbrev Kq38:Kd:=(.pair (.int .u64) Kq11)
abbrev Tq38:Type:=(Int×Tq11)
abbrev Kq39:Kd:=(.pair (.sl (.int .u8)) Kq38)
abbrev Tq39:Type:=(LI×Tq38)
abbrev Kq40:Kd:=(.pair (.int .i64) Kq39)
abbrev Tq40:Type:=(Int×Tq39)
abbrev Kq41:Kd:=(.pair (.int .u64) (.pair .bool .unit))
abbrev Tq41:Type:=(Int×(Bool×Unit))
abbrev Kq42:Kd:=(.pair (.arr 32 (.int .u8)) Kq41)
abbrev Tq42:Type:=(LI×Tq41)
abbrev Kq43:Kd:=(.pair Kq40 Kq42)
abbrev Tq43:Type:=(Tq40×Tq42)
abbrev Kq44:Kd:=(.pair (.int .u64) (.pair (.sl Kq13) .unit))
abbrev Tq44:Type:=(Int×((List Tq13)×Unit))
abbrev Kq45:Kd:=(.pair (.sl (.int .u64)) Kq25)
abbrev Kq46:Kd:=(.pair Kq44 Kq45)
abbrev Kq47:Kd:=(.pair Kq17 (.pair .bool .unit))
def TT:Tab:=[
 (3,⟨.int .i64,1,8,some (.int .i64)⟩),
 (4,⟨.bool,1,1,some .bool⟩),
 (5,⟨.int .u8,1,1,some (.int .u8)⟩),
 (9,⟨.string,1,16,some .str⟩),
 (22,⟨.array 5 5,5,5,some (.arr 5 (.int .u8))⟩),
 (24,⟨.array 32 5,32,32,some (.arr 32 (.int .u8))⟩),
 (25,⟨.slice 5,1,24,some (.sl (.int .u8))⟩),
 (29,⟨.struct #[{name:= "Slots",type:=3,offset:=0,embedded:=false,tag:= "",pkgPath:= "",byteOffset:=0},{name:= "Commit",type:=3,offset:=1,embedded:=false,tag:= "",pkgPath:= "",byteOffset:=8},{name:= "Reveal",type:=3,offset:=2,embedded:=false,tag:= "",pkgPath:= "",byteOffset:=16},{name:= "Attempts",type:=3,offset:=3,embedded:=false,tag:= "",pkgPath:= "",byteOffset:=24},{name:= "Most",type:=3,offset:=4,embedded:=false,tag:= "",pkgPath:= "",byteOffset:=32}],5,40,some Kq21⟩),
 (30,⟨.slice 98,1,24,some (.sl Kq11)⟩),
 (31,⟨.int .u64,1,8,some (.int .u64)⟩),
 (32,⟨.slice 68,1,24,some (.sl Kq9)⟩),
 (34,⟨.struct #[{name:= "Epoch",type:=31,offset:=0,embedded:=false,tag:= "",pkgPath:= "",byteOffset:=0},{name:= "Seed",type:=24,offset:=1,embedded:=false,tag:= "",pkgPath:= "",byteOffset:=8},{name:= "Mix",type:=24,offset:=33,embedded:=false,tag:= "",pkgPath:= "",byteOffset:=40},{name:= "Commits",type:=32,offset:=65,embedded:=false,tag:= "",pkgPath:= "",byteOffset:=72}],66,96,some Kq24⟩),
 (35,⟨.slice 3,1,24,some (.sl (.int .i64))⟩),
 (37,⟨.struct #[{name:= "Config",type:=29,offset:=0,embedded:=false,tag:= "",pkgPath:= "",byteOffset:=0},{name:= "Slot",type:=3,offset:=5,embedded:=false,tag:= "",pkgPath:= "",byteOffset:=40},{name:= "Vals",type:=30,offset:=6,embedded:=false,tag:= "",pkgPath:= "",byteOffset:=48},{name:= "Beacon",type:=34,offset:=7,embedded:=false,tag:= "",pkgPath:= "",byteOffset:=72},{name:= "Leaders",type:=35,offset:=73,embedded:=false,tag:= "",pkgPath:= "",byteOffset:=168},{name:= "Missed",type:=35,offset:=74,embedded:=false,tag:= "",pkgPath:= "",byteOffset:=192}],75,216,some Kq29⟩),
 (38,⟨.int .i64,1,8,some (.int .i64)⟩),
 (42,⟨.slice 49,1,24,some (.sl Kq6)⟩),
 (45,⟨.struct #[{name:= "Err",type:=38,offset:=0,embedded:=false,tag:= "",pkgPath:= "",byteOffset:=0},{name:= "N",type:=31,offset:=1,embedded:=false,tag:= "",pkgPath:= "",byteOffset:=8},{name:= "Who",type:=35,offset:=2,embedded:=false,tag:= "",pkgPath:= "",byteOffset:=16},{name:= "Hash",type:=24,offset:=3,embedded:=false,tag:= "",pkgPath:= "",byteOffset:=40}],35,72,some Kq17⟩),
 (49,⟨.struct #[{name:= "Kind",type:=3,offset:=0,embedded:=false,tag:= "",pkgPath:= "",byteOffset:=0},{name:= "Who",type:=3,offset:=1,embedded:=false,tag:= "",pkgPath:= "",byteOffset:=8},{name:= "Amount",type:=31,offset:=2,embedded:=false,tag:= "",pkgPath:= "",byteOffset:=16},{name:= "Hash",type:=24,offset:=3,embedded:=false,tag:= "",pkgPath:= "",byteOffset:=24},{name:= "N",type:=3,offset:=35,embedded:=false,tag:= "",pkgPath:= "",byteOffset:=56}],36,64,some Kq6⟩),
 (54,⟨.slice 31,1,24,some (.sl (.int .u64))⟩),
 (56,⟨.slice 45,1,24,some (.sl Kq17)⟩),
 (64,⟨.slice 24,1,24,some (.sl (.arr 32 (.int .u8)))⟩),
 (68,⟨.struct #[{name:= "Who",type:=3,offset:=0,embedded:=false,tag:= "",pkgPath:= "",byteOffset:=0},{name:= "Hash",type:=24,offset:=1,embedded:=false,tag:= "",pkgPath:= "",byteOffset:=8},{name:= "Done",type:=4,offset:=33,embedded:=false,tag:= "",pkgPath:= "",byteOffset:=40},{name:= "Value",type:=24,offset:=34,embedded:=false,tag:= "",pkgPath:= "",byteOffset:=41}],66,80,some Kq9⟩),
 (71,⟨.slice 75,1,24,some (.sl Kq37)⟩),
 (75,⟨.struct #[{name:= "Epoch",type:=31,offset:=0,embedded:=false,tag:= "",pkgPath:= "",byteOffset:=0},{name:= "Seed",type:=24,offset:=1,embedded:=false,tag:= "",pkgPath:= "",byteOffset:=8},{name:= "Mix",type:=24,offset:=33,embedded:=false,tag:= "",pkgPath:= "",byteOffset:=40},{name:= "Next",type:=24,offset:=65,embedded:=false,tag:= "",pkgPath:= "",byteOffset:=72}],97,104,some Kq37⟩),
 (87,⟨.func #[91,49] #[38] false,1,8,some .fn⟩),
 (89,⟨.map 3 87,1,8,some .mp⟩),
 (93,⟨.struct #[{name:= "Ledger",type:=37,offset:=0,embedded:=true,tag:= "",pkgPath:= "",byteOffset:=0},{name:= "answer",type:=45,offset:=75,embedded:=false,tag:= "",pkgPath:= "drawlot/ledger",byteOffset:=216}],110,288,some Kq31⟩),
 (98,⟨.struct #[{name:= "Key",type:=24,offset:=0,embedded:=false,tag:= "",pkgPath:= "",byteOffset:=0},{name:= "Stake",type:=31,offset:=32,embedded:=false,tag:= "",pkgPath:= "",byteOffset:=32},{name:= "Next",type:=31,offset:=33,embedded:=false,tag:= "",pkgPath:= "",byteOffset:=40}],34,48,some Kq11⟩),
 (101,⟨.func #[49] #[25] false,1,8,some .fn⟩),
 (103,⟨.array 8 5,8,8,some (.arr 8 (.int .u8))⟩),
 (112,⟨.func #[164] #[] false,1,8,some .fn⟩),
 (115,⟨.struct #[{name:= "answer",type:=45,offset:=0,embedded:=false,tag:= "",pkgPath:= "drawlot/audit",byteOffset:=0},{name:= "ends",type:=4,offset:=35,embedded:=false,tag:= "",pkgPath:= "drawlot/audit",byteOffset:=72}],36,80,some Kq47⟩),
 (122,⟨.struct #[{name:= "Tree",type:=54,offset:=0,embedded:=false,tag:= "",pkgPath:= "",byteOffset:=0}],1,24,some (.pair (.sl (.int .u64)) .unit)⟩),
 (126,⟨.struct #[{name:= "Kind",type:=3,offset:=0,embedded:=false,tag:= "",pkgPath:= "",byteOffset:=0},{name:= "Tape",type:=25,offset:=1,embedded:=false,tag:= "",pkgPath:= "",byteOffset:=8},{name:= "Bits",type:=31,offset:=2,embedded:=false,tag:= "",pkgPath:= "",byteOffset:=32},{name:= "Seed",type:=24,offset:=3,embedded:=false,tag:= "",pkgPath:= "",byteOffset:=40},{name:= "Domain",type:=31,offset:=35,embedded:=false,tag:= "",pkgPath:= "",byteOffset:=72},{name:= "At",type:=31,offset:=36,embedded:=false,tag:= "",pkgPath:= "",byteOffset:=80}],37,88,some Kq40⟩),
 (130,⟨.int .u32,1,4,some (.int .u32)⟩),
 (132,⟨.struct #[{name:= "seed",type:=24,offset:=0,embedded:=false,tag:= "",pkgPath:= "drawlot/slots",byteOffset:=0},{name:= "attempts",type:=3,offset:=32,embedded:=false,tag:= "",pkgPath:= "drawlot/slots",byteOffset:=32}],33,40,some Kq3⟩),
 (138,⟨.int .u64,1,8,some (.int .u64)⟩),
 (141,⟨.slice 146,1,24,some (.sl Kq2)⟩),
 (144,⟨.func #[147,25] #[] false,1,8,some .fn⟩),
 (146,⟨.struct #[{name:= "size",type:=3,offset:=0,embedded:=false,tag:= "",pkgPath:= "drawlot/op",byteOffset:=0},{name:= "put",type:=101,offset:=1,embedded:=false,tag:= "",pkgPath:= "drawlot/op",byteOffset:=8},{name:= "take",type:=144,offset:=2,embedded:=false,tag:= "",pkgPath:= "drawlot/op",byteOffset:=16}],3,24,some Kq2⟩),
 (152,⟨.slice 196,1,24,some (.sl (.arr 64 (.int .u8)))⟩),
 (158,⟨.array 8 130,8,32,some (.arr 8 (.int .u32))⟩),
 (162,⟨.array 4 5,4,4,some (.arr 4 (.int .u8))⟩),
 (196,⟨.array 64 5,64,64,some (.arr 64 (.int .u8))⟩),
 (201,⟨.slice 25,1,24,some (.sl (.sl (.int .u8)))⟩),
 (203,⟨.struct #[{name:= "State",type:=158,offset:=0,embedded:=false,tag:= "",pkgPath:= "",byteOffset:=0},{name:= "Rest",type:=25,offset:=8,embedded:=false,tag:= "",pkgPath:= "",byteOffset:=32},{name:= "Bytes",type:=31,offset:=9,embedded:=false,tag:= "",pkgPath:= "",byteOffset:=56}],10,64,some Kq33⟩),
 (222,⟨.func #[147] #[221] false,1,8,some .fn⟩),
 (224,⟨.map 24 3,1,8,some .mp⟩),
 (243,⟨.array 64 130,64,256,some (.arr 64 (.int .u32))⟩),
 (244,⟨.array 64 130,64,256,some (.arr 64 (.int .u32))⟩),
 (250,⟨.struct #[{name:= "Writer",type:=203,offset:=0,embedded:=true,tag:= "",pkgPath:= "",byteOffset:=0}],10,64,some Kq34⟩),
 (267,⟨.slice 291,1,24,some (.sl Kq13)⟩),
 (269,⟨.struct #[{name:= "Total",type:=31,offset:=0,embedded:=false,tag:= "",pkgPath:= "",byteOffset:=0},{name:= "Cells",type:=267,offset:=1,embedded:=false,tag:= "",pkgPath:= "",byteOffset:=8}],2,32,some Kq44⟩),
 (287,⟨.slice 3,1,24,some (.sl (.int .i64))⟩),
 (289,⟨.struct #[{name:= "Table",type:=269,offset:=0,embedded:=true,tag:= "",pkgPath:= "",byteOffset:=0},{name:= "has",type:=54,offset:=2,embedded:=false,tag:= "",pkgPath:= "drawlot/alias",byteOffset:=32},{name:= "small",type:=287,offset:=3,embedded:=false,tag:= "",pkgPath:= "drawlot/alias",byteOffset:=56},{name:= "large",type:=287,offset:=4,embedded:=false,tag:= "",pkgPath:= "drawlot/alias",byteOffset:=80}],5,104,some Kq46⟩),
 (291,⟨.struct #[{name:= "Cut",type:=31,offset:=0,embedded:=false,tag:= "",pkgPath:= "",byteOffset:=0},{name:= "Alias",type:=3,offset:=1,embedded:=false,tag:= "",pkgPath:= "",byteOffset:=8}],2,16,some Kq13⟩),
 (300,⟨.struct #[{name:= "Source",type:=126,offset:=0,embedded:=true,tag:= "",pkgPath:= "",byteOffset:=0},{name:= "block",type:=24,offset:=37,embedded:=false,tag:= "",pkgPath:= "drawlot/tape",byteOffset:=88},{name:= "at",type:=31,offset:=69,embedded:=false,tag:= "",pkgPath:= "drawlot/tape",byteOffset:=120},{name:= "some",type:=4,offset:=70,embedded:=false,tag:= "",pkgPath:= "drawlot/tape",byteOffset:=128}],71,136,some Kq43⟩),
 (307,⟨.slice 130,1,24,some (.sl (.int .u32))⟩)]
def EQT:List Nat:=[3,24,29,49,68,98]
theorem ty3:TyOK Tryz.prog TT 3 ⟨.int .i64,1,8,some (.int .i64)⟩:=Ap Tryz.underlying3 (by kernel_rfl)
theorem ty4:TyOK Tryz.prog TT 4 ⟨.bool,1,1,some .bool⟩:=Ap Tryz.underlying4 (by kernel_rfl)
theorem ty5:TyOK Tryz.prog TT 5 ⟨.int .u8,1,1,some (.int .u8)⟩:=Ap Tryz.underlying5 (by kernel_rfl)
theorem ty9:TyOK Tryz.prog TT 9 ⟨.string,1,16,some .str⟩:=Ap Tryz.underlying9 (by kernel_rfl)
theorem ty22:TyOK Tryz.prog TT 22 ⟨.array 5 5,5,5,some (.arr 5 (.int .u8))⟩:=Ap Tryz.underlying22 (by kernel_rfl)
theorem ty24:TyOK Tryz.prog TT 24 ⟨.array 32 5,32,32,some (.arr 32 (.int .u8))⟩:=Ap Tryz.underlying24 (by kernel_rfl)
theorem ty25:TyOK Tryz.prog TT 25 ⟨.slice 5,1,24,some (.sl (.int .u8))⟩:=Ap Tryz.underlying25 (by kernel_rfl)
theorem ty29:TyOK Tryz.prog TT 29 ⟨.struct #[{name:= "Slots",type:=3,offset:=0,embedded:=false,tag:= "",pkgPath:= "",byteOffset:=0},{name:= "Commit",type:=3,offset:=1,embedded:=false,tag:= "",pkgPath:= "",byteOffset:=8},{name:= "Reveal",type:=3,offset:=2,embedded:=false,tag:= "",pkgPath:= "",byteOffset:=16},{name:= "Attempts",type:=3,offset:=3,embedded:=false,tag:= "",pkgPath:= "",byteOffset:=24},{name:= "Most",type:=3,offset:=4,embedded:=false,tag:= "",pkgPath:= "",byteOffset:=32}],5,40,some Kq21⟩:=Ap Tryz.underlying29 (by kernel_rfl)
theorem ty30:TyOK Tryz.prog TT 30 ⟨.slice 98,1,24,some (.sl Kq11)⟩:=Ap Tryz.underlying30 (by kernel_rfl)
theorem ty31:TyOK Tryz.prog TT 31 ⟨.int .u64,1,8,some (.int .u64)⟩:=Ap Tryz.underlying31 (by kernel_rfl)
theorem ty32:TyOK Tryz.prog TT 32 ⟨.slice 68,1,24,some (.sl Kq9)⟩:=Ap Tryz.underlying32 (by kernel_rfl)
theorem ty34:TyOK Tryz.prog TT 34 ⟨.struct #[{name:= "Epoch",type:=31,offset:=0,embedded:=false,tag:= "",pkgPath:= "",byteOffset:=0},{name:= "Seed",type:=24,offset:=1,embedded:=false,tag:= "",pkgPath:= "",byteOffset:=8},{name:= "Mix",type:=24,offset:=33,embedded:=false,tag:= "",pkgPath:= "",byteOffset:=40},{name:= "Commits",type:=32,offset:=65,embedded:=false,tag:= "",pkgPath:= "",byteOffset:=72}],66,96,some Kq24⟩:=Ap Tryz.underlying34 (by kernel_rfl)
theorem ty35:TyOK Tryz.prog TT 35 ⟨.slice 3,1,24,some (.sl (.int .i64))⟩:=Ap Tryz.underlying35 (by kernel_rfl)
theorem ty37:TyOK Tryz.prog TT 37 ⟨.struct #[{name:= "Config",type:=29,offset:=0,embedded:=false,tag:= "",pkgPath:= "",byteOffset:=0},{name:= "Slot",type:=3,offset:=5,embedded:=false,tag:= "",pkgPath:= "",byteOffset:=40},{name:= "Vals",type:=30,offset:=6,embedded:=false,tag:= "",pkgPath:= "",byteOffset:=48},{name:= "Beacon",type:=34,offset:=7,embedded:=false,tag:= "",pkgPath:= "",byteOffset:=72},{name:= "Leaders",type:=35,offset:=73,embedded:=false,tag:= "",pkgPath:= "",byteOffset:=168},{name:= "Missed",type:=35,offset:=74,embedded:=false,tag:= "",pkgPath:= "",byteOffset:=192}],75,216,some Kq29⟩:=Ap Tryz.underlying37 (by kernel_rfl)
theorem ty38:TyOK Tryz.prog TT 38 ⟨.int .i64,1,8,some (.int .i64)⟩:=Ap Tryz.underlying38 (by kernel_rfl)
theorem ty42:TyOK Tryz.prog TT 42 ⟨.slice 49,1,24,some (.sl Kq6)⟩:=Ap Tryz.underlying42 (by kernel_rfl)
theorem ty45:TyOK Tryz.prog TT 45 ⟨.struct #[{name:= "Err",type:=38,offset:=0,embedded:=false,tag:= "",pkgPath:= "",byteOffset:=0},{name:= "N",type:=31,offset:=1,embedded:=false,tag:= "",pkgPath:= "",byteOffset:=8},{name:= "Who",type:=35,offset:=2,embedded:=false,tag:= "",pkgPath:= "",byteOffset:=16},{name:= "Hash",type:=24,offset:=3,embedded:=false,tag:= "",pkgPath:= "",byteOffset:=40}],35,72,some Kq17⟩:=Ap Tryz.underlying45 (by kernel_rfl)
theorem ty49:TyOK Tryz.prog TT 49 ⟨.struct #[{name:= "Kind",type:=3,offset:=0,embedded:=false,tag:= "",pkgPath:= "",byteOffset:=0},{name:= "Who",type:=3,offset:=1,embedded:=false,tag:= "",pkgPath:= "",byteOffset:=8},{name:= "Amount",type:=31,offset:=2,embedded:=false,tag:= "",pkgPath:= "",byteOffset:=16},{name:= "Hash",type:=24,offset:=3,embedded:=false,tag:= "",pkgPath:= "",byteOffset:=24},{name:= "N",type:=3,offset:=35,embedded:=false,tag:= "",pkgPath:= "",byteOffset:=56}],36,64,some Kq6⟩:=Ap Tryz.underlying49 (by kernel_rfl)
theorem ty54:TyOK Tryz.prog TT 54 ⟨.slice 31,1,24,some (.sl (.int .u64))⟩:=Ap Tryz.underlying54 (by kernel_rfl)
theorem ty56:TyOK Tryz.prog TT 56 ⟨.slice 45,1,24,some (.sl Kq17)⟩:=Ap Tryz.underlying56 (by kernel_rfl)
theorem ty64:TyOK Tryz.prog TT 64 ⟨.slice 24,1,24,some (.sl (.arr 32 (.int .u8)))⟩:=Ap Tryz.underlying64 (by kernel_rfl)
theorem ty68:TyOK Tryz.prog TT 68 ⟨.struct #[{name:= "Who",type:=3,offset:=0,embedded:=false,tag:= "",pkgPath:= "",byteOffset:=0},{name:= "Hash",type:=24,offset:=1,embedded:=false,tag:= "",pkgPath:= "",byteOffset:=8},{name:= "Done",type:=4,offset:=33,embedded:=false,tag:= "",pkgPath:= "",byteOffset:=40},{name:= "Value",type:=24,offset:=34,embedded:=false,tag:= "",pkgPath:= "",byteOffset:=41}],66,80,some Kq9⟩:=Ap Tryz.underlying68 (by kernel_rfl)
theorem ty71:TyOK Tryz.prog TT 71 ⟨.slice 75,1,24,some (.sl Kq37)⟩:=Ap Tryz.underlying71 (by kernel_rfl)
theorem ty75:TyOK Tryz.prog TT 75 ⟨.struct #[{name:= "Epoch",type:=31,offset:=0,embedded:=false,tag:= "",pkgPath:= "",byteOffset:=0},{name:= "Seed",type:=24,offset:=1,embedded:=false,tag:= "",pkgPath:= "",byteOffset:=8},{name:= "Mix",type:=24,offset:=33,embedded:=false,tag:= "",pkgPath:= "",byteOffset:=40},{name:= "Next",type:=24,offset:=65,embedded:=false,tag:= "",pkgPath:= "",byteOffset:=72}],97,104,some Kq37⟩:=Ap Tryz.underlying75 (by kernel_rfl)
theorem ty87:TyOK Tryz.prog TT 87 ⟨.func #[91,49] #[38] false,1,8,some .fn⟩:=Ap Tryz.underlying87 (by kernel_rfl)
theorem ty89:TyOK Tryz.prog TT 89 ⟨.map 3 87,1,8,some .mp⟩:=Ap Tryz.underlying89 (by kernel_rfl)
theorem ty93:TyOK Tryz.prog TT 93 ⟨.struct #[{name:= "Ledger",type:=37,offset:=0,embedded:=true,tag:= "",pkgPath:= "",byteOffset:=0},{name:= "answer",type:=45,offset:=75,embedded:=false,tag:= "",pkgPath:= "drawlot/ledger",byteOffset:=216}],110,288,some Kq31⟩:=Ap Tryz.underlying93 (by kernel_rfl)
theorem ty98:TyOK Tryz.prog TT 98 ⟨.struct #[{name:= "Key",type:=24,offset:=0,embedded:=false,tag:= "",pkgPath:= "",byteOffset:=0},{name:= "Stake",type:=31,offset:=32,embedded:=false,tag:= "",pkgPath:= "",byteOffset:=32},{name:= "Next",type:=31,offset:=33,embedded:=false,tag:= "",pkgPath:= "",byteOffset:=40}],34,48,some Kq11⟩:=Ap Tryz.underlying98 (by kernel_rfl)
theorem ty101:TyOK Tryz.prog TT 101 ⟨.func #[49] #[25] false,1,8,some .fn⟩:=Ap Tryz.underlying101 (by kernel_rfl)
theorem ty103:TyOK Tryz.prog TT 103 ⟨.array 8 5,8,8,some (.arr 8 (.int .u8))⟩:=Ap Tryz.underlying103 (by kernel_rfl)
theorem ty112:TyOK Tryz.prog TT 112 ⟨.func #[164] #[] false,1,8,some .fn⟩:=Ap Tryz.underlying112 (by kernel_rfl)
theorem ty115:TyOK Tryz.prog TT 115 ⟨.struct #[{name:= "answer",type:=45,offset:=0,embedded:=false,tag:= "",pkgPath:= "drawlot/audit",byteOffset:=0},{name:= "ends",type:=4,offset:=35,embedded:=false,tag:= "",pkgPath:= "drawlot/audit",byteOffset:=72}],36,80,some Kq47⟩:=Ap Tryz.underlying115 (by kernel_rfl)
theorem ty122:TyOK Tryz.prog TT 122 ⟨.struct #[{name:= "Tree",type:=54,offset:=0,embedded:=false,tag:= "",pkgPath:= "",byteOffset:=0}],1,24,some (.pair (.sl (.int .u64)) .unit)⟩:=Ap Tryz.underlying122 (by kernel_rfl)
theorem ty126:TyOK Tryz.prog TT 126 ⟨.struct #[{name:= "Kind",type:=3,offset:=0,embedded:=false,tag:= "",pkgPath:= "",byteOffset:=0},{name:= "Tape",type:=25,offset:=1,embedded:=false,tag:= "",pkgPath:= "",byteOffset:=8},{name:= "Bits",type:=31,offset:=2,embedded:=false,tag:= "",pkgPath:= "",byteOffset:=32},{name:= "Seed",type:=24,offset:=3,embedded:=false,tag:= "",pkgPath:= "",byteOffset:=40},{name:= "Domain",type:=31,offset:=35,embedded:=false,tag:= "",pkgPath:= "",byteOffset:=72},{name:= "At",type:=31,offset:=36,embedded:=false,tag:= "",pkgPath:= "",byteOffset:=80}],37,88,some Kq40⟩:=Ap Tryz.underlying126 (by kernel_rfl)
theorem ty130:TyOK Tryz.prog TT 130 ⟨.int .u32,1,4,some (.int .u32)⟩:=Ap Tryz.underlying130 (by kernel_rfl)
theorem ty132:TyOK Tryz.prog TT 132 ⟨.struct #[{name:= "seed",type:=24,offset:=0,embedded:=false,tag:= "",pkgPath:= "drawlot/slots",byteOffset:=0},{name:= "attempts",type:=3,offset:=32,embedded:=false,tag:= "",pkgPath:= "drawlot/slots",byteOffset:=32}],33,40,some Kq3⟩:=Ap Tryz.underlying132 (by kernel_rfl)
theorem ty138:TyOK Tryz.prog TT 138 ⟨.int .u64,1,8,some (.int .u64)⟩:=Ap Tryz.underlying138 (by kernel_rfl)
theorem ty141:TyOK Tryz.prog TT 141 ⟨.slice 146,1,24,some (.sl Kq2)⟩:=Ap Tryz.underlying141 (by kernel_rfl)
theorem ty144:TyOK Tryz.prog TT 144 ⟨.func #[147,25] #[] false,1,8,some .fn⟩:=Ap Tryz.underlying144 (by kernel_rfl)
theorem ty146:TyOK Tryz.prog TT 146 ⟨.struct #[{name:= "size",type:=3,offset:=0,embedded:=false,tag:= "",pkgPath:= "drawlot/op",byteOffset:=0},{name:= "put",type:=101,offset:=1,embedded:=false,tag:= "",pkgPath:= "drawlot/op",byteOffset:=8},{name:= "take",type:=144,offset:=2,embedded:=false,tag:= "",pkgPath:= "drawlot/op",byteOffset:=16}],3,24,some Kq2⟩:=Ap Tryz.underlying146 (by kernel_rfl)
theorem ty152:TyOK Tryz.prog TT 152 ⟨.slice 196,1,24,some (.sl (.arr 64 (.int .u8)))⟩:=Ap Tryz.underlying152 (by kernel_rfl)
theorem ty158:TyOK Tryz.prog TT 158 ⟨.array 8 130,8,32,some (.arr 8 (.int .u32))⟩:=Ap Tryz.underlying158 (by kernel_rfl)
theorem ty162:TyOK Tryz.prog TT 162 ⟨.array 4 5,4,4,some (.arr 4 (.int .u8))⟩:=Ap Tryz.underlying162 (by kernel_rfl)
theorem ty196:TyOK Tryz.prog TT 196 ⟨.array 64 5,64,64,some (.arr 64 (.int .u8))⟩:=Ap Tryz.underlying196 (by kernel_rfl)
theorem ty201:TyOK Tryz.prog TT 201 ⟨.slice 25,1,24,some (.sl (.sl (.int .u8)))⟩:=Ap Tryz.underlying201 (by kernel_rfl)
theorem ty203:TyOK Tryz.prog TT 203 ⟨.struct #[{name:= "State",type:=158,offset:=0,embedded:=false,tag:= "",pkgPath:= "",byteOffset:=0},{name:= "Rest",type:=25,offset:=8,embedded:=false,tag:= "",pkgPath:= "",byteOffset:=32},{name:= "Bytes",type:=31,offset:=9,embedded:=false,tag:= "",pkgPath:= "",byteOffset:=56}],10,64,some Kq33⟩:=Ap Tryz.underlying203 (by kernel_rfl)
theorem ty222:TyOK Tryz.prog TT 222 ⟨.func #[147] #[221] false,1,8,some .fn⟩:=Ap Tryz.underlying222 (by kernel_rfl)
theorem ty224:TyOK Tryz.prog TT 224 ⟨.map 24 3,1,8,some .mp⟩:=Ap Tryz.underlying224 (by kernel_rfl)
theorem ty243:TyOK Tryz.prog TT 243 ⟨.array 64 130,64,256,some (.arr 64 (.int .u32))⟩:=Ap Tryz.underlying243 (by kernel_rfl)
theorem ty244:TyOK Tryz.prog TT 244 ⟨.array 64 130,64,256,some (.arr 64 (.int .u32))⟩:=Ap Tryz.underlying244 (by kernel_rfl)
theorem ty250:TyOK Tryz.prog TT 250 ⟨.struct #[{name:= "Writer",type:=203,offset:=0,embedded:=true,tag:= "",pkgPath:= "",byteOffset:=0}],10,64,some Kq34⟩:=Ap Tryz.underlying250 (by kernel_rfl)
theorem ty267:TyOK Tryz.prog TT 267 ⟨.slice 291,1,24,some (.sl Kq13)⟩:=Ap Tryz.underlying267 (by kernel_rfl)
theorem ty269:TyOK Tryz.prog TT 269 ⟨.struct #[{name:= "Total",type:=31,offset:=0,embedded:=false,tag:= "",pkgPath:= "",byteOffset:=0},{name:= "Cells",type:=267,offset:=1,embedded:=false,tag:= "",pkgPath:= "",byteOffset:=8}],2,32,some Kq44⟩:=Ap Tryz.underlying269 (by kernel_rfl)
theorem ty287:TyOK Tryz.prog TT 287 ⟨.slice 3,1,24,some (.sl (.int .i64))⟩:=Ap Tryz.underlying287 (by kernel_rfl)
theorem ty289:TyOK Tryz.prog TT 289 ⟨.struct #[{name:= "Table",type:=269,offset:=0,embedded:=true,tag:= "",pkgPath:= "",byteOffset:=0},{name:= "has",type:=54,offset:=2,embedded:=false,tag:= "",pkgPath:= "drawlot/alias",byteOffset:=32},{name:= "small",type:=287,offset:=3,embedded:=false,tag:= "",pkgPath:= "drawlot/alias",byteOffset:=56},{name:= "large",type:=287,offset:=4,embedded:=false,tag:= "",pkgPath:= "drawlot/alias",byteOffset:=80}],5,104,some Kq46⟩:=Ap Tryz.underlying289 (by kernel_rfl)
theorem ty291:TyOK Tryz.prog TT 291 ⟨.struct #[{name:= "Cut",type:=31,offset:=0,embedded:=false,tag:= "",pkgPath:= "",byteOffset:=0},{name:= "Alias",type:=3,offset:=1,embedded:=false,tag:= "",pkgPath:= "",byteOffset:=8}],2,16,some Kq13⟩:=Ap Tryz.underlying291 (by kernel_rfl)
theorem ty300:TyOK Tryz.prog TT 300 ⟨.struct #[{name:= "Source",type:=126,offset:=0,embedded:=true,tag:= "",pkgPath:= "",byteOffset:=0},{name:= "block",type:=24,offset:=37,embedded:=false,tag:= "",pkgPath:= "drawlot/tape",byteOffset:=88},{name:= "at",type:=31,offset:=69,embedded:=false,tag:= "",pkgPath:= "drawlot/tape",byteOffset:=120},{name:= "some",type:=4,offset:=70,embedded:=false,tag:= "",pkgPath:= "drawlot/tape",byteOffset:=128}],71,136,some Kq43⟩:=Ap Tryz.underlying300 (by kernel_rfl)
theorem ty307:TyOK Tryz.prog TT 307 ⟨.slice 130,1,24,some (.sl (.int .u32))⟩:=Ap Tryz.underlying307 (by kernel_rfl)
theorem tabOK:Ax Tryz.prog TT:=zqr (Ah ty3 (Ah ty4 (Ah ty5 (Ah ty9 (Ah ty22 (Ah ty24 (Ah ty25 (Ah ty29 (Ah ty30 (Ah ty31 (Ah ty32 (Ah ty34 (Ah ty35 (Ah ty37 (Ah ty38 (Ah ty42 (Ah ty45 (Ah ty49 (Ah ty54 (Ah ty56 (Ah ty64 (Ah ty68 (Ah ty71 (Ah ty75 (Ah ty87 (Ah ty89 (Ah ty93 (Ah ty98 (Ah ty101 (Ah ty103 (Ah ty112 (Ah ty115 (Ah ty122 (Ah ty126 (Ah ty130 (Ah ty132 (Ah ty138 (Ah ty141 (Ah ty144 (Ah ty146 (Ah ty152 (Ah ty158 (Ah ty162 (Ah ty196 (Ah ty201 (Ah ty203 (Ah ty222 (Ah ty224 (Ah ty243 (Ah ty244 (Ah ty250 (Ah ty267 (Ah ty269 (Ah ty287 (Ah ty289 (Ah ty291 (Ah ty300 (Ah ty307 Bx))))))))))))))))))))))))))))))))))))))))))))))))))))))))))
theorem eqOK:∀t∈EQT,∀k,tkd TT t=some k→EqOK Tryz.prog t k:=(Ah (fun k h=>by
  have h':some ((.int .i64):Kd)=some k:=h;cases h';exact Ma tabOK (k:=(.int .i64)) rfl (by kernel_rfl) (by kernel_rfl) (by decide)) (Ah (fun k h=>by
  have h':some ((.arr 32 (.int .u8)):Kd)=some k:=h;cases h';exact Ma tabOK (k:=(.arr 32 (.int .u8))) rfl (by kernel_rfl) (by kernel_rfl) (by decide)) (Ah (fun k h=>by
  have h':some (Kq21:Kd)=some k:=h;cases h';exact Ma tabOK (k:=Kq21) rfl (by kernel_rfl) (by kernel_rfl) (by decide)) (Ah (fun k h=>by
  have h':some (Kq6:Kd)=some k:=h;cases h';exact Ma tabOK (k:=Kq6) rfl (by kernel_rfl) (by kernel_rfl) (by decide)) (Ah (fun k h=>by
  have h':some (Kq9:Kd)=some k:=h;cases h';exact Ma tabOK (k:=Kq9) rfl (by kernel_rfl) (by kernel_rfl) (by decide)) (Ah (fun k h=>by
  have h':some (Kq11:Kd)=some k:=h;cases h';exact Ma tabOK (k:=Kq11) rfl (by kernel_rfl) (by kernel_rfl) (by decide)) Bx))))))
theorem mixed:Tryz.prog.follows .mixedOrders=true:=by kernel_rfl
abbrev OKP (e:Ent):Prop:=e.OK Tryz.prog
abbrev LKP (e:LEnt) (np nt l:Nat) (f:Func):Prop:=e.OK Tryz.prog np nt (Cd l (Ag f))
abbrev sE:=mE TT EQT
theorem ST:Seat Tryz.prog TT EQT:=⟨tabOK,eqOK,mixed⟩
abbrev FT46:=(R:Type)→Int→(LI→Option R)→Option R
def en46 (F:FT46):Ent:=eV 46 [(.int .u64)] [(.arr 8 (.int .u8))] F
abbrev D46_3 (Z:Type):=Int→Int→LI→LI→Z
abbrev E46_3 (R:Type):=(LI→LI→Option R)→Option R
abbrev R0:=(R:Type)→D46_3 (E46_3 R)
def zjz (L:R0):LEnt:=lM 3 [.val 0 (.int .u64),.fix 2 (.ptr 0 [] (.arr 8 (.int .u8))),.fix 3 (.ptr 1 [] (.arr 8 (.int .u8))),.val 4 (.int .i64),.var 0 (.arr 8 (.int .u8)) false,.var 1 (.arr 8 (.int .u8)) false] 2 [(.exit 0,[.fix 2 (.ptr 0 [] (.arr 8 (.int .u8))),.fix 3 (.ptr 1 [] (.arr 8 (.int .u8))),.var 0 (.arr 8 (.int .u8)) false,.var 1 (.arr 8 (.int .u8)) false])] L
def e46 (L3:R0):=sE 0 17 [] [] [zjz L3]
def zrd (R:Type):D46_3 (D46_3 (Option R)→E46_3 R):=fun x1 x2 x3 x4 kc k0=>
let v5:=decide (x2≥0);(match v5 with
|true=>let v6:=Int.tmod x1 (256:Int);let v7:=IntKind.u8.wrap v6;(match (bnd x2 (8:Int)) with
|true=>let v8:=x4.set x2.toNat v7;let v9:=IntKind.u64.wrap (Int.tdiv x1 (256:Int));let v10:=IntKind.i64.wrap (x2 - 1);kc v9 v10 x3 v8
|false=>none)
|false=>k0 x3 x4)
theorem q46_3 (L3:R0):LEQ (zjz L3) (e46 L3) Tryz.f46 zrd:=fun _ _ _ _=>by kernel_rfl
def Xe:Nat→R0
 | 0=>fun _ _ _ _ _ _=>none
 | n+1=>fun R x1 x2 x3 x4 k0=>zrd R x1 x2 x3 x4 (fun x1 x2 x3 x4=>Xe n R x1 x2 x3 x4 k0) k0
def p46 (L3:R0):FT46:=fun R a0 k=>
L3 R a0 (7:Int) (List.replicate 8 (0:Int)) (List.replicate 8 (0:Int)) (fun x1 x2=>
k x2)
theorem q46 (L3:R0):EQ (en46 (p46 L3)) (e46 L3) Tryz.f46 [(.cell 2 103,103,false)]:=fun _ _ _=>by kernel_rfl
def F46:FT46:=p46 (Xe FUEL)
theorem lok46_3:LKP (zjz (Xe FUEL)) 0 17 3 Tryz.f46:=ST.lok (q46_3 (Xe FUEL)) Ab [] trivial
theorem ok46:OKP (en46 F46):=ST.ok1 (q46 (Xe FUEL)) Ab Tryz.func46 [3] ⟨⟨_,rfl,lok46_3⟩,trivial⟩
abbrev FT89:=(R:Type)→LI→(Int→Option R)→Option R
def en89 (F:FT89):Ent:=eV 89 [(.arr 4 (.int .u8))] [(.int .u32)] F
abbrev D89_3 (Z:Type):=Int→Int→LI→Z
abbrev E89_3 (R:Type):=(Int→Option R)→Option R
abbrev Rw:=(R:Type)→D89_3 (E89_3 R)
def zjl (L:Rw):LEnt:=lM 3 [.fix 1 (.ptr 0 [] (.arr 4 (.int .u8))),.val 3 (.int .u32),.val 4 (.int .i64),.var 0 (.arr 4 (.int .u8)) false] 1 [(.exit 0,[.val 3 (.int .u32)])] L
def e89 (L3:Rw):=sE 0 17 [] [] [zjl L3]
def zyr (R:Type):D89_3 (D89_3 (Option R)→E89_3 R):=fun x1 x2 x3 kc k0=>
let v4:=decide (x2<4);(match v4 with
|true=>let v5:=IntKind.u32.wrap (x1*256);(match (bnd x2 (4:Int)) with
|true=>let v6:=x3.getD x2.toNat 0;let v7:=IntKind.u32.wrap v6;let v8:=IntKind.u32.wrap (v5+v7);let v9:=IntKind.i64.wrap (x2+1);kc v8 v9 x3
|false=>none)
|false=>k0 x1)
theorem q89_3 (L3:Rw):LEQ (zjl L3) (e89 L3) Tryz.f89 zyr:=fun _ _ _ _=>by kernel_rfl
def zgu:Nat→Rw
 | 0=>fun _ _ _ _ _=>none
 | n+1=>fun R x1 x2 x3 k0=>zyr R x1 x2 x3 (fun x1 x2 x3=>zgu n R x1 x2 x3 k0) k0
def p89 (L3:Rw):FT89:=fun R a0 k=>
L3 R (0:Int) (0:Int) a0 (fun x1=>
k x1)
theorem q89 (L3:Rw):EQ (en89 (p89 L3)) (e89 L3) Tryz.f89 [(.tmp 2,130,false)]:=fun _ _ _=>by kernel_rfl
def F89:FT89:=p89 (zgu FUEL)
theorem zz2:LKP (zjl (zgu FUEL)) 0 17 3 Tryz.f89:=ST.lok (q89_3 (zgu FUEL)) Ab [] trivial
theorem ok89:OKP (en89 F89):=ST.ok1 (q89 (zgu FUEL)) Ab Tryz.func89 [3] ⟨⟨_,rfl,zz2⟩,trivial⟩
abbrev FT90:=(R:Type)→LI→(Int→Option R)→Option R
def en90 (F:FT90):Ent:=eV 90 [(.arr 8 (.int .u8))] [(.int .u64)] F
abbrev D90_3 (Z:Type):=Int→Int→LI→Z
abbrev E90_3 (R:Type):=(Int→Option R)→Option R
abbrev Ru:=(R:Type)→D90_3 (E90_3 R)
def zjk (L:Ru):LEnt:=lM 3 [.fix 1 (.ptr 0 [] (.arr 8 (.int .u8))),.val 3 (.int .u64),.val 4 (.int .i64),.var 0 (.arr 8 (.int .u8)) false] 1 [(.exit 0,[.val 3 (.int .u64)])] L
def e90 (L3:Ru):=sE 0 17 [] [] [zjk L3]
def zyq (R:Type):D90_3 (D90_3 (Option R)→E90_3 R):=fun x1 x2 x3 kc k0=>
let v4:=decide (x2<8);(match v4 with
|true=>let v5:=IntKind.u64.wrap (x1*256);(match (bnd x2 (8:Int)) with
|true=>let v6:=x3.getD x2.toNat 0;let v7:=IntKind.u64.wrap v6;let v8:=IntKind.u64.wrap (v5+v7);let v9:=IntKind.i64.wrap (x2+1);kc v8 v9 x3
|false=>none)
|false=>k0 x1)
theorem q90_3 (L3:Ru):LEQ (zjk L3) (e90 L3) Tryz.f90 zyq:=fun _ _ _ _=>by kernel_rfl
def zgt:Nat→Ru
 | 0=>fun _ _ _ _ _=>none
 | n+1=>fun R x1 x2 x3 k0=>zyq R x1 x2 x3 (fun x1 x2 x3=>zgt n R x1 x2 x3 k0) k0
def p90 (L3:Ru):FT90:=fun R a0 k=>
L3 R (0:Int) (0:Int) a0 (fun x1=>
k x1)
theorem q90 (L3:Ru):EQ (en90 (p90 L3)) (e90 L3) Tryz.f90 [(.tmp 2,31,false)]:=fun _ _ _=>by kernel_rfl
def F90:FT90:=p90 (zgt FUEL)
theorem zz1:LKP (zjk (zgt FUEL)) 0 17 3 Tryz.f90:=ST.lok (q90_3 (zgt FUEL)) Ab [] trivial
theorem ok90:OKP (en90 F90):=ST.ok1 (q90 (zgt FUEL)) Ab Tryz.func90 [3] ⟨⟨_,rfl,zz1⟩,trivial⟩
abbrev FT92:=(R:Type)→Int→(LI→Option R)→Option R
def en92 (F:FT92):Ent:=eV 92 [(.int .u64)] [(.arr 8 (.int .u8))] F
abbrev D92_2 (Z:Type):=Int→Int→LI→Z
abbrev E92_2 (R:Type):=(LI→Option R)→Option R
abbrev Rt:=(R:Type)→D92_2 (E92_2 R)
def zjj (L:Rt):LEnt:=lM 2 [.val 0 (.int .u64),.fix 2 (.ptr 0 [] (.arr 8 (.int .u8))),.val 4 (.int .i64),.var 0 (.arr 8 (.int .u8)) false] 1 [(.exit 0,[.fix 2 (.ptr 0 [] (.arr 8 (.int .u8))),.var 0 (.arr 8 (.int .u8)) false])] L
def e92 (L2:Rt):=sE 0 18 [] [] [zjj L2]
def zyp (R:Type):D92_2 (D92_2 (Option R)→E92_2 R):=fun x1 x2 x3 kc k0=>
let v4:=decide (x2<8);(match v4 with
|true=>let v5:=IntKind.i64.wrap ((7:Int) - x2);let v6:=IntKind.i64.wrap ((8:Int)*v5);let v7:=IntKind.u64.wrap v6;(match (decide (0≤v7)) with
|true=>let v8:=ishr .u64 x1 v7;let v9:=IntKind.u8.wrap v8;(match (bnd x2 (8:Int)) with
|true=>let v10:=x3.set x2.toNat v9;let v11:=IntKind.i64.wrap (x2+1);kc x1 v11 v10
|false=>none)
|false=>none)
|false=>k0 x3)
theorem q92_2 (L2:Rt):LEQ (zjj L2) (e92 L2) Tryz.f92 zyp:=fun _ _ _ _=>by kernel_rfl
def za4:Nat→Rt
 | 0=>fun _ _ _ _ _=>none
 | n+1=>fun R x1 x2 x3 k0=>zyp R x1 x2 x3 (fun x1 x2 x3=>za4 n R x1 x2 x3 k0) k0
def p92 (L2:Rt):FT92:=fun R a0 k=>
L2 R a0 (0:Int) (List.replicate 8 (0:Int)) (fun x1=>
k x1)
theorem q92 (L2:Rt):EQ (en92 (p92 L2)) (e92 L2) Tryz.f92 [(.cell 2 103,103,false)]:=fun _ _ _=>by kernel_rfl
def F92:FT92:=p92 (za4 FUEL)
theorem zz0:LKP (zjj (za4 FUEL)) 0 18 2 Tryz.f92:=ST.lok (q92_2 (za4 FUEL)) Ab [] trivial
theorem ok92:OKP (en92 F92):=ST.ok1 (q92 (za4 FUEL)) Ab Tryz.func92 [2] ⟨⟨_,rfl,zz0⟩,trivial⟩
abbrev X6:=(R:Type)→Int→(LI→Option R)→Option R
def en126 (F:X6):Ent:=eV 126 [(.int .u32)] [(.arr 4 (.int .u8))] F
def p126:X6:=fun R a0 k=>
let v1:=IntKind.u32.wrap (Int.tdiv a0 (16777216:Int));let v2:=IntKind.u8.wrap v1;let v3:=IntKind.u32.wrap (Int.tdiv a0 (65536:Int));let v4:=Int.tmod v3 (256:Int);let v5:=IntKind.u8.wrap v4;let v6:=IntKind.u32.wrap (Int.tdiv a0 (256:Int));let v7:=Int.tmod v6 (256:Int);let v8:=IntKind.u8.wrap v7;let v9:=Int.tmod a0 (256:Int);let v10:=IntKind.u8.wrap v9;let v11:=List.set (List.set (List.set (List.set (List.replicate 4 (0:Int)) 0 v2) 1 v5) 2 v8) 3 v10;k v11
theorem q126:EQ (en126 p126) (sE 0 18 [] [] []) Tryz.f126 [(.cell 2 162,162,false)]:=fun _ _ _=>by kernel_rfl
def F126:X6:=p126
theorem zzs:OKP (en126 F126):=ST.ok0 q126 Ab Tryz.func126
abbrev X5:=(R:Type)→LI→(Int→Option R)→Option R
def zub (F:X5):Ent:=eV 148 [(.arr 8 (.int .u8))] [(.int .u64)] F
abbrev zp2 (Z:Type):=Int→LI→Int→Z
abbrev zxl (R:Type):=(Int→Option R)→Option R
abbrev M3:=(R:Type)→zp2 (zxl R)
def Z3 (L:M3):LEnt:=lM 2 [.val 2 (.int .u64),.val 5 (.arr 8 (.int .u8)),.val 6 (.int .i64)] 0 [(.exit 0,[.val 2 (.int .u64)])] L
def e148 (L2:M3):=sE 0 16 [] [] [Z3 L2]
def zir (R:Type):zp2 (zp2 (Option R)→zxl R):=fun x1 x2 x3 kc k0=>
let v4:=decide (x3<8);(match v4 with
|true=>(match (bnd x3 (8:Int)) with
|true=>let v5:=x2.getD x3.toNat 0;let v6:=ishl .u64 x1 (8:Int);let v7:=IntKind.u64.wrap v5;let v8:=ior .u64 v6 v7;let v9:=IntKind.i64.wrap (x3+1);kc v8 x2 v9
|false=>none)
|false=>k0 x1)
theorem q148_2 (L2:M3):LEQ (Z3 L2) (e148 L2) Tryz.f148 zir:=fun _ _ _ _=>by kernel_rfl
def Sg:Nat→M3
 | 0=>fun _ _ _ _ _=>none
 | n+1=>fun R x1 x2 x3 k0=>zir R x1 x2 x3 (fun x1 x2 x3=>Sg n R x1 x2 x3 k0) k0
def p148 (L2:M3):X5:=fun R a0 k=>
L2 R (0:Int) a0 (0:Int) (fun x1=>
k x1)
theorem q148 (L2:M3):EQ (zub (p148 L2)) (e148 L2) Tryz.f148 [(.tmp 2,31,false)]:=fun _ _ _=>by kernel_rfl
def F148:X5:=p148 (Sg FUEL)
theorem zsn:LKP (Z3 (Sg FUEL)) 0 16 2 Tryz.f148:=ST.lok (q148_2 (Sg FUEL)) Ab [] trivial
theorem ok148:OKP (zub F148):=ST.ok1 (q148 (Sg FUEL)) Ab Tryz.func148 [2] ⟨⟨_,rfl,zsn⟩,trivial⟩
abbrev Ob:=(R:Type)→Int→(LI→Option R)→Option R
def zk4 (F:Ob):Ent:=eV 192 [(.int .u32)] [(.arr 4 (.int .u8))] F
def p192:Ob:=fun R a0 k=>
let v1:=ishr .u32 a0 (24:Int);let v2:=IntKind.u8.wrap v1;let v3:=ishr .u32 a0 (16:Int);let v4:=IntKind.u8.wrap v3;let v5:=ishr .u32 a0 (8:Int);let v6:=IntKind.u8.wrap v5;let v7:=IntKind.u8.wrap a0;let v8:=List.set (List.set (List.set (List.set (List.replicate 4 (0:Int)) 0 v2) 1 v4) 2 v6) 3 v7;k v8
theorem q192:EQ (zk4 p192) (sE 0 15 [] [] []) Tryz.f192 [(.cell 2 162,162,false)]:=fun _ _ _=>by kernel_rfl
def F192:Ob:=p192
theorem zrl:OKP (zk4 F192):=ST.ok0 q192 Ab Tryz.func192
abbrev Oa:=(R:Type)→LI→(Int→Option R)→Option R
def zk3 (F:Oa):Ent:=eV 194 [(.arr 4 (.int .u8))] [(.int .u32)] F
abbrev zpq (Z:Type):=Int→LI→Int→Z
abbrev zw9 (R:Type):=(Int→Option R)→Option R
abbrev Mu:=(R:Type)→zpq (zw9 R)
def Zr (L:Mu):LEnt:=lM 2 [.val 2 (.int .u32),.val 5 (.arr 4 (.int .u8)),.val 6 (.int .i64)] 0 [(.exit 0,[.val 2 (.int .u32)])] L
def e194 (L2:Mu):=sE 0 16 [] [] [Zr L2]
def zif (R:Type):zpq (zpq (Option R)→zw9 R):=fun x1 x2 x3 kc k0=>
let v4:=decide (x3<4);(match v4 with
|true=>(match (bnd x3 (4:Int)) with
|true=>let v5:=x2.getD x3.toNat 0;let v6:=ishl .u32 x1 (8:Int);let v7:=IntKind.u32.wrap v5;let v8:=ior .u32 v6 v7;let v9:=IntKind.i64.wrap (x3+1);kc v8 x2 v9
|false=>none)
|false=>k0 x1)
theorem q194_2 (L2:Mu):LEQ (Zr L2) (e194 L2) Tryz.f194 zif:=fun _ _ _ _=>by kernel_rfl
def Sd:Nat→Mu
 | 0=>fun _ _ _ _ _=>none
 | n+1=>fun R x1 x2 x3 k0=>zif R x1 x2 x3 (fun x1 x2 x3=>Sd n R x1 x2 x3 k0) k0
def p194 (L2:Mu):Oa:=fun R a0 k=>
L2 R (0:Int) a0 (0:Int) (fun x1=>
k x1)
theorem q194 (L2:Mu):EQ (zk3 (p194 L2)) (e194 L2) Tryz.f194 [(.tmp 2,130,false)]:=fun _ _ _=>by kernel_rfl
def F194:Oa:=p194 (Sd FUEL)
theorem zsa:LKP (Zr (Sd FUEL)) 0 16 2 Tryz.f194:=ST.lok (q194_2 (Sd FUEL)) Ab [] trivial
theorem zrk:OKP (zk3 F194):=ST.ok1 (q194 (Sd FUEL)) Ab Tryz.func194 [2] ⟨⟨_,rfl,zsa⟩,trivial⟩
abbrev zbw:=(R:Type)→Int→Int→(Int→Option R)→Option R
def ztz (F:zbw):Ent:=eV 219 [(.int .u32),(.int .i64)] [(.int .u32)] F
abbrev zpk (Z:Type):=Int→Int→Int→Z
abbrev zw3 (R:Type):=(Int→Option R)→Option R
abbrev Mr:=(R:Type)→zpk (zw3 R)
def Zl (L:Mr):LEnt:=lM 4 [.val 0 (.int .u32),.val 1 (.int .i64),.val 5 (.int .i64)] 0 [(.exit 0,[.val 0 (.int .u32)])] L
def e219 (L4:Mr):=sE 0 16 [] [] [Zl L4]
def zh9 (R:Type):zpk (zpk (Option R)→zw3 R):=fun x1 x2 x3 kc k0=>
let v4:=decide (x3<x2);(match v4 with
|true=>let v5:=IntKind.u32.wrap (Int.tdiv x1 (2:Int));let v6:=IntKind.i64.wrap (x3+1);kc v5 x2 v6
|false=>k0 x1)
theorem q219_4 (L4:Mr):LEQ (Zl L4) (e219 L4) Tryz.f219 zh9:=fun _ _ _ _=>by kernel_rfl
def Qf:Nat→Mr
 | 0=>fun _ _ _ _ _=>none
 | n+1=>fun R x1 x2 x3 k0=>zh9 R x1 x2 x3 (fun x1 x2 x3=>Qf n R x1 x2 x3 k0) k0
def p219 (L4:Mr):zbw:=fun R a0 a1 k=>
let v1:=decide (a1>31);(match v1 with
|true=>k (0:Int)
|false=>L4 R a0 a1 (0:Int) (fun x2=>
k x2))
theorem q219 (L4:Mr):EQ (ztz (p219 L4)) (e219 L4) Tryz.f219 [(.tmp 4,130,false)]:=fun _ _ _=>by kernel_rfl
def F219:zbw:=p219 (Qf FUEL)
theorem zr4:LKP (Zl (Qf FUEL)) 0 16 4 Tryz.f219:=ST.lok (q219_4 (Qf FUEL)) Ab [] trivial
theorem ok219:OKP (ztz F219):=ST.ok1 (q219 (Qf FUEL)) Ab Tryz.func219 [4] ⟨⟨_,rfl,zr4⟩,trivial⟩
abbrev Ua:=(R:Type)→Int→Int→(Int→Option R)→Option R
def zk1 (F:Ua):Ent:=eV 235 [(.int .u32),(.int .i64)] [(.int .u32)] F
abbrev zph (Z:Type):=Int→Int→Int→Z
abbrev zw0 (R:Type):=(Int→Option R)→Option R
abbrev Mo:=(R:Type)→zph (zw0 R)
def Zi (L:Mo):LEnt:=lM 5 [.val 0 (.int .u32),.val 1 (.int .i64),.val 5 (.int .i64)] 0 [(.exit 0,[.val 0 (.int .u32)])] L
def e235 (L5:Mo):=sE 0 24 [] [] [Zi L5]
def zh6 (R:Type):zph (zph (Option R)→zw0 R):=fun x1 x2 x3 kc k0=>
let v4:=decide (x3<x2);(match v4 with
|true=>let v5:=IntKind.u32.wrap (Int.tdiv x1 (2:Int));let v6:=Int.tmod x1 (2:Int);let v7:=IntKind.u32.wrap (v6*2147483648);let v8:=IntKind.u32.wrap (v5+v7);let v9:=IntKind.i64.wrap (x3+1);kc v8 x2 v9
|false=>k0 x1)
theorem q235_5 (L5:Mo):LEQ (Zi L5) (e235 L5) Tryz.f235 zh6:=fun _ _ _ _=>by kernel_rfl
def Qd:Nat→Mo
 | 0=>fun _ _ _ _ _=>none
 | n+1=>fun R x1 x2 x3 k0=>zh6 R x1 x2 x3 (fun x1 x2 x3=>Qd n R x1 x2 x3 k0) k0
def p235 (L5:Mo):Ua:=fun R a0 a1 k=>
let v1:=Int.tmod a1 (32:Int);let v2:=decide (v1<0);(match v2 with
|true=>let v3:=IntKind.i64.wrap (v1+32);L5 R a0 v3 (0:Int) (fun x4=>
k x4)
|false=>L5 R a0 v1 (0:Int) (fun x5=>
k x5))
theorem q235 (L5:Mo):EQ (zk1 (p235 L5)) (e235 L5) Tryz.f235 [(.tmp 4,130,false)]:=fun _ _ _=>by kernel_rfl
def F235:Ua:=p235 (Qd FUEL)
theorem zr1:LKP (Zi (Qd FUEL)) 0 24 5 Tryz.f235:=ST.lok (q235_5 (Qd FUEL)) Ab [] trivial
theorem zzi:OKP (zk1 F235):=ST.ok1 (q235 (Qd FUEL)) Ab Tryz.func235 [5] ⟨⟨_,rfl,zr1⟩,trivial⟩
abbrev zm7:=(R:Type)→Int→(Int→Option R)→Option R
def en243 (F:zm7):Ent:=eV 243 [(.int .u64)] [(.int .i64)] F
abbrev zpf (Z:Type):=Int→Int→Z
abbrev zwy (R:Type):=(Int→Option R)→Option R
abbrev Mm:=(R:Type)→zpf (zwy R)
def Zg (L:Mm):LEnt:=lM 1 [.val 0 (.int .u64),.val 2 (.int .i64)] 0 [(.exit 0,[.val 2 (.int .i64)])] L
def e243 (L1:Mm):=sE 0 10 [] [] [Zg L1]
def zdk (R:Type):zpf (zpf (Option R)→zwy R):=fun x1 x2 kc k0=>
let v3:=x1 !=0;(match v3 with
|true=>let v4:=IntKind.i64.wrap (x2+1);let v5:=ishr .u64 x1 (1:Int);kc v5 v4
|false=>k0 x2)
theorem q243_1 (L1:Mm):LEQ (Zg L1) (e243 L1) Tryz.f243 zdk:=fun _ _ _ _=>by kernel_rfl
def Nt:Nat→Mm
 | 0=>fun _ _ _ _=>none
 | n+1=>fun R x1 x2 k0=>zdk R x1 x2 (fun x1 x2=>Nt n R x1 x2 k0) k0
def p243 (L1:Mm):zm7:=fun R a0 k=>
L1 R a0 (0:Int) (fun x1=>
k x1)
theorem q243 (L1:Mm):EQ (en243 (p243 L1)) (e243 L1) Tryz.f243 [(.tmp 2,3,false)]:=fun _ _ _=>by kernel_rfl
def F243:zm7:=p243 (Nt FUEL)
theorem zrz:LKP (Zg (Nt FUEL)) 0 10 1 Tryz.f243:=ST.lok (q243_1 (Nt FUEL)) Ab [] trivial
theorem ok243:OKP (en243 F243):=ST.ok1 (q243 (Nt FUEL)) Ab Tryz.func243 [1] ⟨⟨_,rfl,zrz⟩,trivial⟩
abbrev zbj:=(R:Type)→Int→Int→(Int→Option R)→Option R
def zts (F:zbj):Ent:=eV 260 [(.int .u32),(.int .i64)] [(.int .u32)] F
def p260:zbj:=fun R a0 a1 k=>
let v1:=IntKind.u64.wrap a1;let v2:=Int.tmod v1 (32:Int);(match (decide (0≤v2)) with
|true=>let v3:=ishr .u32 a0 v2;let v4:=IntKind.u64.wrap ((32:Int) - v2);(match (decide (0≤v4)) with
|true=>let v5:=ishl .u32 a0 v4;let v6:=ior .u32 v3 v5;k v6
|false=>none)
|false=>none)
theorem q260:EQ (zts p260) (sE 0 17 [] [] []) Tryz.f260 [(.tmp 4,130,false)]:=fun _ _ _=>by kernel_rfl
def F260:zbj:=p260
theorem ok260:OKP (zts F260):=ST.ok0 q260 Ab Tryz.func260
abbrev zm1:=(R:Type)→Int→Int→(Int→Option R)→Option R
def en261 (F:zm1):Ent:=eV 261 [(.int .u32),(.int .i64)] [(.int .u32)] F
def p261:zm1:=fun R a0 a1 k=>
let v1:=if (0:Int)>a1 then (0:Int) else a1;let v2:=IntKind.u64.wrap v1;(match (decide (0≤v2)) with
|true=>let v3:=ishr .u32 a0 v2;k v3
|false=>none)
theorem q261:EQ (en261 p261) (sE 0 10 [] [] []) Tryz.f261 [(.tmp 4,130,false)]:=fun _ _ _=>by kernel_rfl
def F261:zm1:=p261
theorem ok261:OKP (en261 F261):=ST.ok0 q261 Ab Tryz.func261
abbrev FT45:=(R:Type)→LI→(LI→Option R)→Option R
def en45 (F:FT45):Ent:=eM 45 [(false,(.arr 32 (.int .u8)))] [(true,(.int .u8))] F
abbrev D45_3 (Z:Type):=Int→LI→LI→Z
abbrev E45_3 (R:Type):=(LI→Option R)→Option R
abbrev R4:=(R:Type)→D45_3 (E45_3 R)
def zj0 (L:R4):LEnt:=lM 3 [.fix 1 (.ptr 0 [] (.arr 32 (.int .u8))),.fix 3 (.own 1 0),.val 4 (.int .i64),.var 0 (.arr 32 (.int .u8)) false,.row 1 (.int .u8) false] 2 [(.exit 0,[.fix 3 (.own 1 0),.row 1 (.int .u8) false])] L
def e45 (L3:R4):=sE 0 16 [(1,0)] [] [zj0 L3]
def zy4 (R:Type):D45_3 (D45_3 (Option R)→E45_3 R):=fun x1 x2 x3 kc k0=>
let v4:=decide (x1<32);(match v4 with
|true=>(match (bnd x1 (32:Int)) with
|true=>let v5:=x2.getD x1.toNat 0;let v6:=([v5]:LI);(match (decide (x3.length+v6.length≤140737488355328)) with
|true=>let v7:=x3++v6;let v8:=IntKind.i64.wrap (x1+1);kc v8 x2 v7
|false=>none)
|false=>none)
|false=>k0 x3)
theorem q45_3 (L3:R4):LEQ (zj0 L3) (e45 L3) Tryz.f45 zy4:=fun _ _ _ _=>by kernel_rfl
def za8:Nat→R4
 | 0=>fun _ _ _ _ _=>none
 | n+1=>fun R x1 x2 x3 k0=>zy4 R x1 x2 x3 (fun x1 x2 x3=>za8 n R x1 x2 x3 k0) k0
def p45 (L3:R4):FT45:=fun R a0 k=>
L3 R (0:Int) a0 ([]:LI) (fun x1=>
k x1)
theorem q45 (L3:R4):EQ (en45 (p45 L3)) (e45 L3) Tryz.f45 [(.tmp 2,25,true)]:=fun _ _ _=>by kernel_rfl
def F45:FT45:=p45 (za8 FUEL)
theorem lok45_3:LKP (zj0 (za8 FUEL)) 0 16 3 Tryz.f45:=ST.lok (q45_3 (za8 FUEL)) Ab [] trivial
theorem ok45:OKP (en45 F45):=ST.ok1 (q45 (za8 FUEL)) Ab Tryz.func45 [3] ⟨⟨_,rfl,lok45_3⟩,trivial⟩
abbrev znu:=(R:Type)→LI→Int→(LI→Bool→Option R)→Option R
def en125 (F:znu):Ent:=eV 125 [(.sl (.int .u8)),(.int .u64)] [(.sl (.int .u8)),.bool] F
abbrev zqa (Z:Type):=Int→LI→Z
abbrev zxt (R:Type):=(Int→LI→Option R)→Option R
abbrev Ke:=(R:Type)→zqa (zxt R)
def zab (L:Ke):LEnt:=lM 4 [.val 1 (.int .u64),.fix 6 (.own 0 0),.row 0 (.int .u8) false] 1 [(.exit 0,[.val 1 (.int .u64),.fix 6 (.own 0 0),.row 0 (.int .u8) false])] L
abbrev zp9 (Z:Type):=Int→LI→LI→Z
abbrev zxs (R:Type):=(LI→Option R)→Option R
abbrev Kc:=(R:Type)→zp9 (zxs R)
def zaa (L:Kc):LEnt:=lM 8 [.fix 6 (.own 0 0),.fix 7 (.ptr 1 [] (.arr 8 (.int .u8))),.val 8 (.int .i64),.row 0 (.int .u8) false,.var 1 (.arr 8 (.int .u8)) false] 2 [(.exit 2,[.fix 6 (.own 0 0),.row 0 (.int .u8) false])] L
def e125 (F46:FT46) (L4:Ke) (L8:Kc):=sE 0 45 [(3,0)] [en46 F46] [zab L4,zaa L8]
def zdp (R:Type):zqa (zqa (Option R)→zxt R):=fun x1 x2 kc k0=>
let v3:=(x2.length:Int);let v4:=Int.tmod v3 (64:Int);let v5:=v4 !=56;(match v5 with
|true=>let v6:=([(0:Int)]:LI);(match (decide (x2.length+v6.length≤140737488355328)) with
|true=>let v7:=x2++v6;kc x1 v7
|false=>none)
|false=>k0 x1 x2)
theorem q125_4 (F46:FT46) (L4:Ke) (L8:Kc):LEQ (zab L4) (e125 F46 L4 L8) Tryz.f125 zdp:=fun _ _ _ _=>by kernel_rfl
def Lj:Nat→Ke
 | 0=>fun _ _ _ _=>none
 | n+1=>fun R x1 x2 k0=>zdp R x1 x2 (fun x1 x2=>Lj n R x1 x2 k0) k0
def ziw (R:Type):zp9 (zp9 (Option R)→zxs R):=fun x1 x2 x3 kc k0=>
let v4:=decide (x1<8);(match v4 with
|true=>(match (bnd x1 (8:Int)) with
|true=>let v5:=x3.getD x1.toNat 0;let v6:=([v5]:LI);(match (decide (x2.length+v6.length≤140737488355328)) with
|true=>let v7:=x2++v6;let v8:=IntKind.i64.wrap (x1+1);kc v8 v7 x3
|false=>none)
|false=>none)
|false=>k0 x2)
theorem q125_8 (F46:FT46) (L4:Ke) (L8:Kc):LEQ (zaa L8) (e125 F46 L4 L8) Tryz.f125 ziw:=fun _ _ _ _=>by kernel_rfl
def Li:Nat→Kc
 | 0=>fun _ _ _ _ _=>none
 | n+1=>fun R x1 x2 x3 k0=>ziw R x1 x2 x3 (fun x1 x2 x3=>Li n R x1 x2 x3 k0) k0
def p125 (F46:FT46) (L4:Ke) (L8:Kc):znu:=fun R a0 a1 k=>
let v1:=decide (a1≥2305843009213693952);(match v1 with
|true=>k ([]:LI) false
|false=>let v2:=(a0.length:Int);let v3:=IntKind.u64.wrap v2;let v4:=Int.tmod a1 (64:Int);let v5:=v3 !=v4;(match v5 with
|true=>k ([]:LI) false
|false=>let v6:=([]:LI);(match (decide (v6.length+a0.length≤140737488355328)) with
|true=>let v7:=v6++a0;let v8:=([(128:Int)]:LI);(match (decide (v7.length+v8.length≤140737488355328)) with
|true=>let v9:=v7++v8;L4 R a1 v9 (fun x10 x11=>
let v12:=IntKind.u64.wrap ((8:Int)*x10);F46 R v12 fun y13=>
L8 R (0:Int) x11 y13 (fun x14=>
k x14 true))
|false=>none)
|false=>none)))
theorem q125 (F46:FT46) (L4:Ke) (L8:Kc):EQ (en125 (p125 F46 L4 L8)) (e125 F46 L4 L8) Tryz.f125 [(.tmp 4,25,false),(.tmp 5,4,false)]:=fun _ _ _=>by kernel_rfl
def F125:znu:=p125 F46 (Lj FUEL) (Li FUEL)
theorem zsv:LKP (zab (Lj FUEL)) 0 45 4 Tryz.f125:=ST.lok (q125_4 F46 (Lj FUEL) (Li FUEL)) (Aa ok46 Ab) [] trivial
theorem zsu:LKP (zaa (Li FUEL)) 0 45 8 Tryz.f125:=ST.lok (q125_8 F46 (Lj FUEL) (Li FUEL)) (Aa ok46 Ab) [] trivial
theorem ok125:OKP (en125 F125):=ST.ok1 (q125 F46 (Lj FUEL) (Li FUEL)) (Aa ok46 Ab) Tryz.func125 [4,8] ⟨⟨_,rfl,zsv⟩,⟨⟨_,rfl,zsu⟩,trivial⟩⟩
abbrev FT85:=(R:Type)→LI→(LI→Option R)→Option R
def en85 (F:FT85):Ent:=eV 85 [(.sl (.int .u8))] [(.sl (.int .u8))] F
def p85 (F125:znu):FT85:=fun R a0 k=>
let v1:=(a0.length:Int);let v2:=(a0.length:Int);let v3:=Int.tmod v2 (64:Int);let v4:=IntKind.i64.wrap (v1 - v3);(match (decide (0≤v4∧v4≤(a0.length:Int)∧(a0.length:Int)≤(a0.length:Int)∧(a0.length:Int)≤(a0.length:Int))) with
|true=>let v5:=List.take (Int.toNat ((a0.length:Int) - v4)) (List.drop v4.toNat a0);let v6:=(a0.length:Int);let v7:=IntKind.u64.wrap v6;F125 R v5 v7 fun y8 y9=>
let v10:=([]:LI);(match (decide (0≤(0:Int)∧(0:Int)≤v4∧v4≤v4∧v4≤(a0.length:Int))) with
|true=>let v11:=List.take (Int.toNat (v4 - 0)) (List.drop 0 a0);(match (decide (v10.length+v11.length≤140737488355328)) with
|true=>let v12:=v10++v11;(match (decide (v12.length+y8.length≤140737488355328)) with
|true=>let v13:=v12++y8;k v13
|false=>none)
|false=>none)
|false=>none)
|false=>none)
theorem q85 (F125:znu):EQ (en85 (p85 F125)) (sE 0 29 [(3,0)] [en125 F125] []) Tryz.f85 [(.tmp 2,25,false)]:=fun _ _ _=>by kernel_rfl
def F85:FT85:=p85 F125
theorem ok85:OKP (en85 F85):=ST.ok0 (q85 F125) (Aa ok125 Ab) Tryz.func85
abbrev FT84:=(R:Type)→LI→((List LI)→LI→Option R)→Option R
def en84 (F:FT84):Ent:=eV 84 [(.sl (.int .u8))] [(.sl (.arr 64 (.int .u8))),(.sl (.int .u8))] F
abbrev D84_3 (Z:Type):=LI→Int→(List LI)→Z
abbrev E84_3 (R:Type):=(LI→Int→(List LI)→Option R)→Option R
abbrev P4:=(R:Type)→D84_3 (E84_3 R)
def zjq (L:P4):LEnt:=lM 3 [.val 0 (.sl (.int .u8)),.fix 4 (.own 0 0),.val 5 (.int .i64),.row 0 (.arr 64 (.int .u8)) false] 1 [(.exit 0,[.val 0 (.sl (.int .u8)),.fix 4 (.own 0 0),.val 5 (.int .i64),.row 0 (.arr 64 (.int .u8)) false])] L
abbrev D84_6 (Z:Type):=LI→Int→Int→(List LI)→LI→Z
abbrev E84_6 (R:Type):=(LI→Int→(List LI)→LI→Option R)→Option R
abbrev P3:=(R:Type)→D84_6 (E84_6 R)
def zjp (L:P3):LEnt:=lM 6 [.val 0 (.sl (.int .u8)),.fix 4 (.own 0 0),.val 5 (.int .i64),.fix 6 (.ptr 1 [] (.arr 64 (.int .u8))),.val 7 (.int .i64),.row 0 (.arr 64 (.int .u8)) false,.var 1 (.arr 64 (.int .u8)) false] 2 [(.exit 2,[.val 0 (.sl (.int .u8)),.fix 4 (.own 0 0),.val 5 (.int .i64),.fix 6 (.ptr 1 [] (.arr 64 (.int .u8))),.row 0 (.arr 64 (.int .u8)) false,.var 1 (.arr 64 (.int .u8)) false])] L
def e84 (L3:P4) (L6:P3):=sE 0 35 [(1,0)] [] [zjq L3,zjp L6]
def zyv (R:Type):D84_6 (D84_6 (Option R)→E84_6 R):=fun x1 x2 x3 x4 x5 kc k0=>
let v6:=decide (x3<64);(match v6 with
|true=>let v7:=IntKind.i64.wrap (x2+x3);(match bnd v7 x1.length with
|true=>let v8:=x1.getD v7.toNat 0;(match (bnd x3 (64:Int)) with
|true=>let v9:=x5.set x3.toNat v8;let v10:=IntKind.i64.wrap (x3+1);kc x1 x2 v10 x4 v9
|false=>none)
|false=>none)
|false=>k0 x1 x2 x4 x5)
theorem q84_6 (L3:P4) (L6:P3):LEQ (zjp L6) (e84 L3 L6) Tryz.f84 zyv:=fun _ _ _ _=>by kernel_rfl
def Xc:Nat→P3
 | 0=>fun _ _ _ _ _ _ _=>none
 | n+1=>fun R x1 x2 x3 x4 x5 k0=>zyv R x1 x2 x3 x4 x5 (fun x1 x2 x3 x4 x5=>Xc n R x1 x2 x3 x4 x5 k0) k0
def zyw (L6:P3) (R:Type):D84_3 (D84_3 (Option R)→E84_3 R):=fun x1 x2 x3 kc k0=>
let v4:=IntKind.i64.wrap (x2+64);let v5:=(x1.length:Int);let v6:=decide (v4≤v5);(match v6 with
|true=>L6 R x1 x2 (0:Int) x3 (List.replicate 64 (0:Int)) (fun x7 x8 x9 x10=>
let v11:=([x10]:(List LI));(match (decide (x9.length+v11.length≤2199023255552)) with
|true=>let v12:=x9++v11;let v13:=IntKind.i64.wrap (x8+64);kc x7 v13 v12
|false=>none))
|false=>k0 x1 x2 x3)
theorem q84_3 (L3:P4) (L6:P3):LEQ (zjq L3) (e84 L3 L6) Tryz.f84 (zyw L6):=fun _ _ _ _=>by kernel_rfl
def T6:Nat→P4
 | 0=>fun _ _ _ _ _=>none
 | n+1=>fun R x1 x2 x3 k0=>zyw (Xc FUEL) R x1 x2 x3 (fun x1 x2 x3=>T6 n R x1 x2 x3 k0) k0
def p84 (L3:P4):FT84:=fun R a0 k=>
L3 R a0 (0:Int) ([]:(List LI)) (fun x1 x2 x3=>
(match (decide (0≤x2∧x2≤(x1.length:Int)∧(x1.length:Int)≤(x1.length:Int)∧(x1.length:Int)≤(x1.length:Int))) with
|true=>let v4:=List.take (Int.toNat ((x1.length:Int) - x2)) (List.drop x2.toNat x1);k x3 v4
|false=>none))
theorem q84 (L3:P4) (L6:P3):EQ (en84 (p84 L3)) (e84 L3 L6) Tryz.f84 [(.tmp 2,152,false),(.tmp 3,25,false)]:=fun _ _ _=>by kernel_rfl
def F84:FT84:=p84 (T6 FUEL)
theorem zz6:LKP (zjp (Xc FUEL)) 0 35 6 Tryz.f84:=ST.lok (q84_6 (T6 FUEL) (Xc FUEL)) Ab [] trivial
theorem zz7:LKP (zjq (T6 FUEL)) 0 35 3 Tryz.f84:=ST.lok (q84_3 (T6 FUEL) (Xc FUEL)) Ab [6] ⟨⟨_,rfl,zz6⟩,trivial⟩
theorem ok84:OKP (en84 F84):=ST.ok1 (q84 (T6 FUEL) (Xc FUEL)) Ab Tryz.func84 [3] ⟨⟨_,rfl,zz7⟩,trivial⟩
abbrev FT88:=(R:Type)→(LI→Option R)→Option R
def en88 (F:FT88):Ent:=eV 88 [] [(.arr 8 (.int .u32))] F
def p88:FT88:=fun R k=>
let v1:=List.set (List.set (List.set (List.set (List.set (List.set (List.set (List.set (List.replicate 8 (0:Int)) 0 (1779033703:Int)) 1 (3144134277:Int)) 2 (1013904242:Int)) 3 (2773480762:Int)) 4 (1359893119:Int)) 5 (2600822924:Int)) 6 (528734635:Int)) 7 (1541459225:Int);k v1
theorem q88:EQ (en88 p88) (sE 0 2 [] [] []) Tryz.f88 [(.cell 0 158,158,false)]:=fun _ _ _=>by kernel_rfl
def F88:FT88:=p88
theorem ok88:OKP (en88 F88):=ST.ok0 q88 Ab Tryz.func88
abbrev Xx:=(R:Type)→Int→(Int→Option R)→Option R
def en209 (F:Xx):Ent:=eV 209 [(.int .u32)] [(.int .u32)] F
def p209 (F219:zbw) (F235:Ua):Xx:=fun R a0 k=>
F235 R a0 (17:Int) fun y1=>
F235 R a0 (19:Int) fun y2=>
let v3:=ixor .u32 y1 y2;F219 R a0 (10:Int) fun y4=>
let v5:=ixor .u32 v3 y4;k v5
theorem q209 (F219:zbw) (F235:Ua):EQ (en209 (p209 F219 F235)) (sE 0 11 [] [ztz F219,zk1 F235] []) Tryz.f209 [(.tmp 2,130,false)]:=fun _ _ _=>by kernel_rfl
def F209:Xx:=p209 F219 F235
theorem zzk:OKP (en209 F209):=ST.ok0 (q209 F219 F235) (Aa ok219 (Aa zzi Ab)) Tryz.func209
abbrev Xw:=(R:Type)→Int→(Int→Option R)→Option R
def en210 (F:Xw):Ent:=eV 210 [(.int .u32)] [(.int .u32)] F
def p210 (F219:zbw) (F235:Ua):Xw:=fun R a0 k=>
F235 R a0 (7:Int) fun y1=>
F235 R a0 (18:Int) fun y2=>
let v3:=ixor .u32 y1 y2;F219 R a0 (3:Int) fun y4=>
let v5:=ixor .u32 v3 y4;k v5
theorem q210 (F219:zbw) (F235:Ua):EQ (en210 (p210 F219 F235)) (sE 0 11 [] [ztz F219,zk1 F235] []) Tryz.f210 [(.tmp 2,130,false)]:=fun _ _ _=>by kernel_rfl
def F210:Xw:=p210 F219 F235
theorem zzj:OKP (en210 F210):=ST.ok0 (q210 F219 F235) (Aa ok219 (Aa zzi Ab)) Tryz.func210
abbrev X2:=(R:Type)→LI→(LI→Option R)→Option R
def en174 (F:X2):Ent:=eV 174 [(.arr 64 (.int .u8))] [(.arr 64 (.int .u32))] F
abbrev zpx (Z:Type):=Int→LI→LI→LI→Z
abbrev zxg (R:Type):=(LI→LI→Option R)→Option R
abbrev J9:=(R:Type)→zpx (zxg R)
def Zy (L:J9):LEnt:=lM 3 [.fix 1 (.ptr 0 [] (.arr 64 (.int .u8))),.fix 2 (.ptr 1 [] (.arr 64 (.int .u32))),.fix 3 (.ptr 2 [] (.arr 64 (.int .u32))),.val 4 (.int .i64),.var 0 (.arr 64 (.int .u8)) false,.var 1 (.arr 64 (.int .u32)) false,.var 2 (.arr 64 (.int .u32)) false] 3 [(.exit 0,[.fix 2 (.ptr 1 [] (.arr 64 (.int .u32))),.fix 3 (.ptr 2 [] (.arr 64 (.int .u32))),.var 1 (.arr 64 (.int .u32)) false,.var 2 (.arr 64 (.int .u32)) false])] L
abbrev zpw (Z:Type):=Int→LI→LI→Z
abbrev zxf (R:Type):=(LI→LI→Option R)→Option R
abbrev J8:=(R:Type)→zpw (zxf R)
def Zx (L:J8):LEnt:=lM 7 [.fix 2 (.ptr 1 [] (.arr 64 (.int .u32))),.fix 3 (.ptr 2 [] (.arr 64 (.int .u32))),.val 5 (.int .i64),.var 1 (.arr 64 (.int .u32)) false,.var 2 (.arr 64 (.int .u32)) false] 3 [(.exit 2,[.fix 2 (.ptr 1 [] (.arr 64 (.int .u32))),.fix 3 (.ptr 2 [] (.arr 64 (.int .u32))),.var 1 (.arr 64 (.int .u32)) false,.var 2 (.arr 64 (.int .u32)) false])] L
def e174 (F89:FT89) (F209:Xx) (F210:Xw) (L3:J9) (L7:J8):=sE 0 61 [] [en89 F89,en209 F209,en210 F210] [Zy L3,Zx L7]
def zil (F89:FT89) (R:Type):zpx (zpx (Option R)→zxg R):=fun x1 x2 x3 x4 kc k0=>
let v5:=decide (x1<16);(match v5 with
|true=>let v6:=IntKind.i64.wrap ((4:Int)*x1);(match (bnd v6 (64:Int)) with
|true=>let v7:=x2.getD v6.toNat 0;let v8:=IntKind.i64.wrap ((4:Int)*x1);let v9:=IntKind.i64.wrap (v8+1);(match (bnd v9 (64:Int)) with
|true=>let v10:=x2.getD v9.toNat 0;let v11:=IntKind.i64.wrap ((4:Int)*x1);let v12:=IntKind.i64.wrap (v11+2);(match (bnd v12 (64:Int)) with
|true=>let v13:=x2.getD v12.toNat 0;let v14:=IntKind.i64.wrap ((4:Int)*x1);let v15:=IntKind.i64.wrap (v14+3);(match (bnd v15 (64:Int)) with
|true=>let v16:=x2.getD v15.toNat 0;let v17:=List.set (List.set (List.set (List.set (List.replicate 4 (0:Int)) 0 v7) 1 v10) 2 v13) 3 v16;F89 R v17 fun y18=>
(match (bnd x1 (64:Int)) with
|true=>let v19:=x4.set x1.toNat y18;let v20:=IntKind.i64.wrap (x1+1);kc v20 x2 x3 v19
|false=>none)
|false=>none)
|false=>none)
|false=>none)
|false=>none)
|false=>k0 x3 x4)
theorem q174_3 (F89:FT89) (F209:Xx) (F210:Xw) (L3:J9) (L7:J8):LEQ (Zy L3) (e174 F89 F209 F210 L3 L7) Tryz.f174 (zil F89):=fun _ _ _ _=>by kernel_rfl
def Nx:Nat→J9
 | 0=>fun _ _ _ _ _ _=>none
 | n+1=>fun R x1 x2 x3 x4 k0=>zil F89 R x1 x2 x3 x4 (fun x1 x2 x3 x4=>Nx n R x1 x2 x3 x4 k0) k0
def zik (F209:Xx) (F210:Xw) (R:Type):zpw (zpw (Option R)→zxf R):=fun x1 x2 x3 kc k0=>
let v4:=decide (x1<64);(match v4 with
|true=>let v5:=IntKind.i64.wrap (x1 - 2);(match (bnd v5 (64:Int)) with
|true=>let v6:=x3.getD v5.toNat 0;F209 R v6 fun y7=>
let v8:=IntKind.i64.wrap (x1 - 7);(match (bnd v8 (64:Int)) with
|true=>let v9:=x3.getD v8.toNat 0;let v10:=IntKind.u32.wrap (y7+v9);let v11:=IntKind.i64.wrap (x1 - 15);(match (bnd v11 (64:Int)) with
|true=>let v12:=x3.getD v11.toNat 0;F210 R v12 fun y13=>
let v14:=IntKind.u32.wrap (v10+y13);let v15:=IntKind.i64.wrap (x1 - 16);(match (bnd v15 (64:Int)) with
|true=>let v16:=x3.getD v15.toNat 0;let v17:=IntKind.u32.wrap (v14+v16);(match (bnd x1 (64:Int)) with
|true=>let v18:=x3.set x1.toNat v17;let v19:=IntKind.i64.wrap (x1+1);kc v19 x2 v18
|false=>none)
|false=>none)
|false=>none)
|false=>none)
|false=>none)
|false=>k0 x2 x3)
theorem q174_7 (F89:FT89) (F209:Xx) (F210:Xw) (L3:J9) (L7:J8):LEQ (Zx L7) (e174 F89 F209 F210 L3 L7) Tryz.f174 (zik F209 F210):=fun _ _ _ _=>by kernel_rfl
def Lg:Nat→J8
 | 0=>fun _ _ _ _ _=>none
 | n+1=>fun R x1 x2 x3 k0=>zik F209 F210 R x1 x2 x3 (fun x1 x2 x3=>Lg n R x1 x2 x3 k0) k0
def p174 (L3:J9) (L7:J8):X2:=fun R a0 k=>
L3 R (0:Int) a0 (List.replicate 64 (0:Int)) (List.replicate 64 (0:Int)) (fun x1 x2=>
L7 R (16:Int) x1 x2 (fun x3 x4=>
k x4))
theorem q174 (F89:FT89) (F209:Xx) (F210:Xw) (L3:J9) (L7:J8):EQ (en174 (p174 L3 L7)) (e174 F89 F209 F210 L3 L7) Tryz.f174 [(.cell 2 244,244,false)]:=fun _ _ _=>by kernel_rfl
def F174:X2:=p174 (Nx FUEL) (Lg FUEL)
theorem zsh:LKP (Zy (Nx FUEL)) 0 61 3 Tryz.f174:=ST.lok (q174_3 F89 F209 F210 (Nx FUEL) (Lg FUEL)) (Aa ok89 (Aa zzk (Aa zzj Ab))) [] trivial
theorem zsg:LKP (Zx (Lg FUEL)) 0 61 7 Tryz.f174:=ST.lok (q174_7 F89 F209 F210 (Nx FUEL) (Lg FUEL)) (Aa ok89 (Aa zzk (Aa zzj Ab))) [] trivial
theorem zzo:OKP (en174 F174):=ST.ok1 (q174 F89 F209 F210 (Nx FUEL) (Lg FUEL)) (Aa ok89 (Aa zzk (Aa zzj Ab))) Tryz.func174 [3,7] ⟨⟨_,rfl,zsh⟩,⟨⟨_,rfl,zsg⟩,trivial⟩⟩
abbrev X0:=(R:Type)→Int→(Int→Option R)→Option R
def en176 (F:X0):Ent:=eV 176 [(.int .i64)] [(.int .u32)] F
def p176:X0:=fun R a0 k=>
let v1:=decide (a0<0);(match v1 with
|true=>k (0:Int)
|false=>let v2:=decide (a0>63);(match v2 with
|true=>k (0:Int)
|false=>let v3:=List.set (List.set (List.set (List.set (List.set (List.set (List.set (List.set (List.set (List.set (List.set (List.set (List.set (List.set (List.set (List.set (List.set (List.set (List.set (List.set (List.set (List.set (List.set (List.set (List.set (List.set (List.set (List.set (List.set (List.set (List.set (List.set (List.set (List.set (List.set (List.set (List.set (List.set (List.set (List.set (List.set (List.set (List.set (List.set (List.set (List.set (List.set (List.set (List.set (List.set (List.set (List.set (List.set (List.set (List.set (List.set (List.set (List.set (List.set (List.set (List.set (List.set (List.set (List.set (List.replicate 64 (0:Int)) 0 (1116352408:Int)) 1 (1899447441:Int)) 2 (3049323471:Int)) 3 (3921009573:Int)) 4 (961987163:Int)) 5 (1508970993:Int)) 6 (2453635748:Int)) 7 (2870763221:Int)) 8 (3624381080:Int)) 9 (310598401:Int)) 10 (607225278:Int)) 11 (1426881987:Int)) 12 (1925078388:Int)) 13 (2162078206:Int)) 14 (2614888103:Int)) 15 (3248222580:Int)) 16 (3835390401:Int)) 17 (4022224774:Int)) 18 (264347078:Int)) 19 (604807628:Int)) 20 (770255983:Int)) 21 (1249150122:Int)) 22 (1555081692:Int)) 23 (1996064986:Int)) 24 (2554220882:Int)) 25 (2821834349:Int)) 26 (2952996808:Int)) 27 (3210313671:Int)) 28 (3336571891:Int)) 29 (3584528711:Int)) 30 (113926993:Int)) 31 (338241895:Int)) 32 (666307205:Int)) 33 (773529912:Int)) 34 (1294757372:Int)) 35 (1396182291:Int)) 36 (1695183700:Int)) 37 (1986661051:Int)) 38 (2177026350:Int)) 39 (2456956037:Int)) 40 (2730485921:Int)) 41 (2820302411:Int)) 42 (3259730800:Int)) 43 (3345764771:Int)) 44 (3516065817:Int)) 45 (3600352804:Int)) 46 (4094571909:Int)) 47 (275423344:Int)) 48 (430227734:Int)) 49 (506948616:Int)) 50 (659060556:Int)) 51 (883997877:Int)) 52 (958139571:Int)) 53 (1322822218:Int)) 54 (1537002063:Int)) 55 (1747873779:Int)) 56 (1955562222:Int)) 57 (2024104815:Int)) 58 (2227730452:Int)) 59 (2361852424:Int)) 60 (2428436474:Int)) 61 (2756734187:Int)) 62 (3204031479:Int)) 63 (3329325298:Int);(match (bnd a0 (64:Int)) with
|true=>let v4:=v3.getD a0.toNat 0;k v4
|false=>none)))
theorem q176:EQ (en176 p176) (sE 0 12 [] [] []) Tryz.f176 [(.tmp 2,130,false)]:=fun _ _ _=>by kernel_rfl
def F176:X0:=p176
theorem zzm:OKP (en176 F176):=ST.ok0 q176 Ab Tryz.func176
abbrev zne:=(R:Type)→Int→Int→Int→Int→(Int→Option R)→Option R
def en211 (F:zne):Ent:=eV 211 [(.int .u32),(.int .i64),(.int .i64),(.int .i64)] [(.int .u32)] F
def p211 (F235:Ua):zne:=fun R a0 a1 a2 a3 k=>
F235 R a0 a1 fun y1=>
F235 R a0 a2 fun y2=>
let v3:=ixor .u32 y1 y2;F235 R a0 a3 fun y4=>
let v5:=ixor .u32 v3 y4;k v5
theorem q211 (F235:Ua):EQ (en211 (p211 F235)) (sE 0 20 [] [zk1 F235] []) Tryz.f211 [(.tmp 8,130,false)]:=fun _ _ _=>by kernel_rfl
def F211:zne:=p211 F235
theorem ok211:OKP (en211 F211):=ST.ok0 (q211 F235) (Aa zzi Ab) Tryz.func211
abbrev znd:=(R:Type)→Int→Int→Int→(Int→Option R)→Option R
def en212 (F:znd):Ent:=eV 212 [(.int .u32),(.int .u32),(.int .u32)] [(.int .u32)] F
def p212:znd:=fun R a0 a1 a2 k=>
let v1:=iand .u32 a0 a1;let v2:=IntKind.u32.wrap ((4294967295:Int) - a0);let v3:=iand .u32 v2 a2;let v4:=ior .u32 v1 v3;k v4
theorem q212:EQ (en212 p212) (sE 0 15 [] [] []) Tryz.f212 [(.tmp 6,130,false)]:=fun _ _ _=>by kernel_rfl
def F212:znd:=p212
theorem ok212:OKP (en212 F212):=ST.ok0 q212 Ab Tryz.func212
abbrev znc:=(R:Type)→Int→Int→Int→(Int→Option R)→Option R
def en213 (F:znc):Ent:=eV 213 [(.int .u32),(.int .u32),(.int .u32)] [(.int .u32)] F
def p213:znc:=fun R a0 a1 a2 k=>
let v1:=iand .u32 a0 a1;let v2:=iand .u32 a0 a2;let v3:=ior .u32 v1 v2;let v4:=iand .u32 a1 a2;let v5:=ior .u32 v3 v4;k v5
theorem q213:EQ (en213 p213) (sE 0 18 [] [] []) Tryz.f213 [(.tmp 6,130,false)]:=fun _ _ _=>by kernel_rfl
def F213:znc:=p213
theorem ok213:OKP (en213 F213):=ST.ok0 q213 Ab Tryz.func213
abbrev X1:=(R:Type)→LI→Int→Int→(LI→Option R)→Option R
def en175 (F:X1):Ent:=eV 175 [(.arr 8 (.int .u32)),(.int .u32),(.int .u32)] [(.arr 8 (.int .u32))] F
def p175 (F211:zne) (F212:znd) (F213:znc):X1:=fun R a0 a1 a2 k=>
let v1:=a0.getD 7 0;let v2:=a0.getD 4 0;F211 R v2 (6:Int) (11:Int) (25:Int) fun y3=>
let v4:=IntKind.u32.wrap (v1+y3);let v5:=a0.getD 4 0;let v6:=a0.getD 5 0;let v7:=a0.getD 6 0;F212 R v5 v6 v7 fun y8=>
let v9:=IntKind.u32.wrap (v4+y8);let v10:=IntKind.u32.wrap (v9+a2);let v11:=IntKind.u32.wrap (v10+a1);let v12:=a0.getD 0 0;F211 R v12 (2:Int) (13:Int) (22:Int) fun y13=>
let v14:=a0.getD 0 0;let v15:=a0.getD 1 0;let v16:=a0.getD 2 0;F213 R v14 v15 v16 fun y17=>
let v18:=IntKind.u32.wrap (y13+y17);let v19:=IntKind.u32.wrap (v11+v18);let v20:=a0.getD 0 0;let v21:=a0.getD 1 0;let v22:=a0.getD 2 0;let v23:=a0.getD 3 0;let v24:=IntKind.u32.wrap (v23+v11);let v25:=a0.getD 4 0;let v26:=a0.getD 5 0;let v27:=a0.getD 6 0;let v28:=List.set (List.set (List.set (List.set (List.set (List.set (List.set (List.set (List.replicate 8 (0:Int)) 0 v19) 1 v20) 2 v21) 3 v22) 4 v24) 5 v25) 6 v26) 7 v27;k v28
theorem q175 (F211:zne) (F212:znd) (F213:znc):EQ (en175 (p175 F211 F212 F213)) (sE 0 58 [] [en211 F211,en212 F212,en213 F213] []) Tryz.f175 [(.cell 6 158,158,false)]:=fun _ _ _=>by kernel_rfl
def F175:X1:=p175 F211 F212 F213
theorem zzn:OKP (en175 F175):=ST.ok0 (q175 F211 F212 F213) (Aa ok211 (Aa ok212 (Aa ok213 Ab))) Tryz.func175
abbrev zcj:=(R:Type)→LI→LI→(LI→Option R)→Option R
def en127 (F:zcj):Ent:=eV 127 [(.arr 8 (.int .u32)),(.arr 64 (.int .u8))] [(.arr 8 (.int .u32))] F
abbrev zp8 (Z:Type):=Int→LI→LI→LI→LI→Z
abbrev zxr (R:Type):=(LI→LI→LI→Option R)→Option R
abbrev Kb:=(R:Type)→zp8 (zxr R)
def Z9 (L:Kb):LEnt:=lM 4 [.fix 2 (.ptr 0 [] (.arr 8 (.int .u32))),.fix 4 (.ptr 2 [] (.arr 8 (.int .u32))),.fix 5 (.ptr 3 [] (.arr 64 (.int .u32))),.fix 6 (.ptr 4 [] (.arr 8 (.int .u32))),.val 7 (.int .i64),.var 0 (.arr 8 (.int .u32)) false,.var 2 (.arr 8 (.int .u32)) false,.var 3 (.arr 64 (.int .u32)) false,.var 4 (.arr 8 (.int .u32)) false] 5 [(.exit 0,[.fix 2 (.ptr 0 [] (.arr 8 (.int .u32))),.fix 4 (.ptr 2 [] (.arr 8 (.int .u32))),.fix 6 (.ptr 4 [] (.arr 8 (.int .u32))),.var 0 (.arr 8 (.int .u32)) false,.var 2 (.arr 8 (.int .u32)) false,.var 4 (.arr 8 (.int .u32)) false])] L
abbrev zp7 (Z:Type):=Int→LI→LI→LI→Z
abbrev zxq (R:Type):=(LI→LI→Option R)→Option R
abbrev Ka:=(R:Type)→zp7 (zxq R)
def Z8 (L:Ka):LEnt:=lM 8 [.fix 2 (.ptr 0 [] (.arr 8 (.int .u32))),.fix 4 (.ptr 2 [] (.arr 8 (.int .u32))),.fix 6 (.ptr 4 [] (.arr 8 (.int .u32))),.val 8 (.int .i64),.var 0 (.arr 8 (.int .u32)) false,.var 2 (.arr 8 (.int .u32)) false,.var 4 (.arr 8 (.int .u32)) false] 5 [(.exit 2,[.fix 4 (.ptr 2 [] (.arr 8 (.int .u32))),.fix 6 (.ptr 4 [] (.arr 8 (.int .u32))),.var 2 (.arr 8 (.int .u32)) false,.var 4 (.arr 8 (.int .u32)) false])] L
def e127 (F174:X2) (F175:X1) (F176:X0) (L4:Kb) (L8:Ka):=sE 0 37 [] [en174 F174,en175 F175,en176 F176] [Z9 L4,Z8 L8]
def ziv (F175:X1) (F176:X0) (R:Type):zp8 (zp8 (Option R)→zxr R):=fun x1 x2 x3 x4 x5 kc k0=>
let v6:=decide (x1<64);(match v6 with
|true=>(match (bnd x1 (64:Int)) with
|true=>let v7:=x4.getD x1.toNat 0;F176 R x1 fun y8=>
F175 R x5 v7 y8 fun y9=>
let v10:=IntKind.i64.wrap (x1+1);kc v10 x2 x3 x4 y9
|false=>none)
|false=>k0 x2 x3 x5)
theorem q127_4 (F174:X2) (F175:X1) (F176:X0) (L4:Kb) (L8:Ka):LEQ (Z9 L4) (e127 F174 F175 F176 L4 L8) Tryz.f127 (ziv F175 F176):=fun _ _ _ _=>by kernel_rfl
def N0:Nat→Kb
 | 0=>fun _ _ _ _ _ _ _=>none
 | n+1=>fun R x1 x2 x3 x4 x5 k0=>ziv F175 F176 R x1 x2 x3 x4 x5 (fun x1 x2 x3 x4 x5=>N0 n R x1 x2 x3 x4 x5 k0) k0
def ziu (R:Type):zp7 (zp7 (Option R)→zxq R):=fun x1 x2 x3 x4 kc k0=>
let v5:=decide (x1<8);(match v5 with
|true=>(match (bnd x1 (8:Int)) with
|true=>let v6:=x4.getD x1.toNat 0;(match (bnd x1 (8:Int)) with
|true=>let v7:=x2.getD x1.toNat 0;let v8:=IntKind.u32.wrap (v6+v7);(match (bnd x1 (8:Int)) with
|true=>let v9:=x4.set x1.toNat v8;let v10:=IntKind.i64.wrap (x1+1);kc v10 x2 x3 v9
|false=>none)
|false=>none)
|false=>none)
|false=>k0 x3 x4)
theorem q127_8 (F174:X2) (F175:X1) (F176:X0) (L4:Kb) (L8:Ka):LEQ (Z8 L8) (e127 F174 F175 F176 L4 L8) Tryz.f127 ziu:=fun _ _ _ _=>by kernel_rfl
def Lh:Nat→Ka
 | 0=>fun _ _ _ _ _ _=>none
 | n+1=>fun R x1 x2 x3 x4 k0=>ziu R x1 x2 x3 x4 (fun x1 x2 x3 x4=>Lh n R x1 x2 x3 x4 k0) k0
def p127 (F174:X2) (L4:Kb) (L8:Ka):zcj:=fun R a0 a1 k=>
F174 R a1 fun y1=>
L4 R (0:Int) a0 (List.replicate 8 (0:Int)) y1 a0 (fun x2 x3 x4=>
L8 R (0:Int) x2 x3 x4 (fun x5 x6=>
k x6))
theorem q127 (F174:X2) (F175:X1) (F176:X0) (L4:Kb) (L8:Ka):EQ (en127 (p127 F174 L4 L8)) (e127 F174 F175 F176 L4 L8) Tryz.f127 [(.cell 4 158,158,false)]:=fun _ _ _=>by kernel_rfl
def F127:zcj:=p127 F174 (N0 FUEL) (Lh FUEL)
theorem zst:LKP (Z9 (N0 FUEL)) 0 37 4 Tryz.f127:=ST.lok (q127_4 F174 F175 F176 (N0 FUEL) (Lh FUEL)) (Aa zzo (Aa zzn (Aa zzm Ab))) [] trivial
theorem zss:LKP (Z8 (Lh FUEL)) 0 37 8 Tryz.f127:=ST.lok (q127_8 F174 F175 F176 (N0 FUEL) (Lh FUEL)) (Aa zzo (Aa zzn (Aa zzm Ab))) [] trivial
theorem ok127:OKP (en127 F127):=ST.ok1 (q127 F174 F175 F176 (N0 FUEL) (Lh FUEL)) (Aa zzo (Aa zzn (Aa zzm Ab))) Tryz.func127 [4,8] ⟨⟨_,rfl,zst⟩,⟨⟨_,rfl,zss⟩,trivial⟩⟩
abbrev FT87:=(R:Type)→LI→(List LI)→(LI→Option R)→Option R
def en87 (F:FT87):Ent:=eV 87 [(.arr 8 (.int .u32)),(.sl (.arr 64 (.int .u8)))] [(.arr 8 (.int .u32))] F
abbrev D87_2 (Z:Type):=(List LI)→Int→LI→LI→Z
abbrev E87_2 (R:Type):=(LI→LI→Option R)→Option R
abbrev Rx:=(R:Type)→D87_2 (E87_2 R)
def zjm (L:Rx):LEnt:=lM 2 [.val 1 (.sl (.arr 64 (.int .u8))),.fix 2 (.ptr 0 [] (.arr 8 (.int .u32))),.fix 4 (.ptr 1 [] (.arr 8 (.int .u32))),.val 5 (.int .i64),.var 0 (.arr 8 (.int .u32)) false,.var 1 (.arr 8 (.int .u32)) false] 2 [(.exit 0,[.fix 2 (.ptr 0 [] (.arr 8 (.int .u32))),.fix 4 (.ptr 1 [] (.arr 8 (.int .u32))),.var 0 (.arr 8 (.int .u32)) false,.var 1 (.arr 8 (.int .u32)) false])] L
def e87 (F127:zcj) (L2:Rx):=sE 0 19 [] [en127 F127] [zjm L2]
def zys (F127:zcj) (R:Type):D87_2 (D87_2 (Option R)→E87_2 R):=fun x1 x2 x3 x4 kc k0=>
let v5:=(x1.length:Int);let v6:=decide (x2<v5);(match v6 with
|true=>(match bnd x2 x1.length with
|true=>let v7:=x1.getD x2.toNat (List.replicate 64 0);F127 R x3 v7 fun y8=>
let v9:=IntKind.i64.wrap (x2+1);kc x1 v9 y8 x4
|false=>none)
|false=>k0 x3 x4)
theorem q87_2 (F127:zcj) (L2:Rx):LEQ (zjm L2) (e87 F127 L2) Tryz.f87 (zys F127):=fun _ _ _ _=>by kernel_rfl
def za5:Nat→Rx
 | 0=>fun _ _ _ _ _ _=>none
 | n+1=>fun R x1 x2 x3 x4 k0=>zys F127 R x1 x2 x3 x4 (fun x1 x2 x3 x4=>za5 n R x1 x2 x3 x4 k0) k0
def p87 (L2:Rx):FT87:=fun R a0 a1 k=>
L2 R a1 (0:Int) a0 (List.replicate 8 (0:Int)) (fun x1 x2=>
k x1)
theorem q87 (F127:zcj) (L2:Rx):EQ (en87 (p87 L2)) (e87 F127 L2) Tryz.f87 [(.cell 4 158,158,false)]:=fun _ _ _=>by kernel_rfl
def F87:FT87:=p87 (za5 FUEL)
theorem zz3:LKP (zjm (za5 FUEL)) 0 19 2 Tryz.f87:=ST.lok (q87_2 F127 (za5 FUEL)) (Aa ok127 Ab) [] trivial
theorem ok87:OKP (en87 F87):=ST.ok1 (q87 F127 (za5 FUEL)) (Aa ok127 Ab) Tryz.func87 [2] ⟨⟨_,rfl,zz3⟩,trivial⟩
abbrev FT86:=(R:Type)→LI→(LI→Option R)→Option R
def en86 (F:FT86):Ent:=eV 86 [(.arr 8 (.int .u32))] [(.arr 32 (.int .u8))] F
abbrev D86_3 (Z:Type):=Int→LI→LI→LI→Z
abbrev E86_3 (R:Type):=(LI→LI→Option R)→Option R
abbrev P2:=(R:Type)→D86_3 (E86_3 R)
def zjo (L:P2):LEnt:=lM 3 [.fix 1 (.ptr 0 [] (.arr 8 (.int .u32))),.fix 2 (.ptr 1 [] (.arr 32 (.int .u8))),.fix 3 (.ptr 2 [] (.arr 32 (.int .u8))),.val 4 (.int .i64),.var 0 (.arr 8 (.int .u32)) false,.var 1 (.arr 32 (.int .u8)) false,.var 2 (.arr 32 (.int .u8)) false] 3 [(.exit 0,[.fix 2 (.ptr 1 [] (.arr 32 (.int .u8))),.fix 3 (.ptr 2 [] (.arr 32 (.int .u8))),.var 1 (.arr 32 (.int .u8)) false,.var 2 (.arr 32 (.int .u8)) false])] L
abbrev D86_7 (Z:Type):=Int→Int→LI→LI→LI→LI→Z
abbrev E86_7 (R:Type):=(Int→LI→LI→LI→Option R)→Option R
abbrev P1:=(R:Type)→D86_7 (E86_7 R)
def zjn (L:P1):LEnt:=lM 7 [.fix 1 (.ptr 0 [] (.arr 8 (.int .u32))),.fix 2 (.ptr 1 [] (.arr 32 (.int .u8))),.fix 3 (.ptr 2 [] (.arr 32 (.int .u8))),.val 4 (.int .i64),.fix 5 (.ptr 3 [] (.arr 4 (.int .u8))),.val 6 (.int .i64),.var 0 (.arr 8 (.int .u32)) false,.var 1 (.arr 32 (.int .u8)) false,.var 2 (.arr 32 (.int .u8)) false,.var 3 (.arr 4 (.int .u8)) false] 4 [(.exit 2,[.fix 1 (.ptr 0 [] (.arr 8 (.int .u32))),.fix 2 (.ptr 1 [] (.arr 32 (.int .u8))),.fix 3 (.ptr 2 [] (.arr 32 (.int .u8))),.val 4 (.int .i64),.var 0 (.arr 8 (.int .u32)) false,.var 1 (.arr 32 (.int .u8)) false,.var 2 (.arr 32 (.int .u8)) false])] L
def e86 (F126:X6) (L3:P2) (L7:P1):=sE 0 28 [] [en126 F126] [zjo L3,zjn L7]
def zyt (R:Type):D86_7 (D86_7 (Option R)→E86_7 R):=fun x1 x2 x3 x4 x5 x6 kc k0=>
let v7:=decide (x2<4);(match v7 with
|true=>let v8:=IntKind.i64.wrap ((4:Int)*x1);let v9:=IntKind.i64.wrap (v8+x2);(match (bnd x2 (4:Int)) with
|true=>let v10:=x6.getD x2.toNat 0;(match (bnd v9 (32:Int)) with
|true=>let v11:=x5.set v9.toNat v10;let v12:=IntKind.i64.wrap (x2+1);kc x1 v12 x3 x4 v11 x6
|false=>none)
|false=>none)
|false=>k0 x1 x3 x4 x5)
theorem q86_7 (F126:X6) (L3:P2) (L7:P1):LEQ (zjn L7) (e86 F126 L3 L7) Tryz.f86 zyt:=fun _ _ _ _=>by kernel_rfl
def Xb:Nat→P1
 | 0=>fun _ _ _ _ _ _ _ _=>none
 | n+1=>fun R x1 x2 x3 x4 x5 x6 k0=>zyt R x1 x2 x3 x4 x5 x6 (fun x1 x2 x3 x4 x5 x6=>Xb n R x1 x2 x3 x4 x5 x6 k0) k0
def zyu (F126:X6) (L7:P1) (R:Type):D86_3 (D86_3 (Option R)→E86_3 R):=fun x1 x2 x3 x4 kc k0=>
let v5:=decide (x1<8);(match v5 with
|true=>(match (bnd x1 (8:Int)) with
|true=>let v6:=x2.getD x1.toNat 0;F126 R v6 fun y7=>
L7 R x1 (0:Int) x2 x3 x4 y7 (fun x8 x9 x10 x11=>
let v12:=IntKind.i64.wrap (x8+1);kc v12 x9 x10 x11)
|false=>none)
|false=>k0 x3 x4)
theorem q86_3 (F126:X6) (L3:P2) (L7:P1):LEQ (zjo L3) (e86 F126 L3 L7) Tryz.f86 (zyu F126 L7):=fun _ _ _ _=>by kernel_rfl
def N9:Nat→P2
 | 0=>fun _ _ _ _ _ _=>none
 | n+1=>fun R x1 x2 x3 x4 k0=>zyu F126 (Xb FUEL) R x1 x2 x3 x4 (fun x1 x2 x3 x4=>N9 n R x1 x2 x3 x4 k0) k0
def p86 (L3:P2):FT86:=fun R a0 k=>
L3 R (0:Int) a0 (List.replicate 32 (0:Int)) (List.replicate 32 (0:Int)) (fun x1 x2=>
k x2)
theorem q86 (F126:X6) (L3:P2) (L7:P1):EQ (en86 (p86 L3)) (e86 F126 L3 L7) Tryz.f86 [(.cell 2 24,24,false)]:=fun _ _ _=>by kernel_rfl
def F86:FT86:=p86 (N9 FUEL)
theorem zz4:LKP (zjn (Xb FUEL)) 0 28 7 Tryz.f86:=ST.lok (q86_7 F126 (N9 FUEL) (Xb FUEL)) (Aa zzs Ab) [] trivial
theorem zz5:LKP (zjo (N9 FUEL)) 0 28 3 Tryz.f86:=ST.lok (q86_3 F126 (N9 FUEL) (Xb FUEL)) (Aa zzs Ab) [7] ⟨⟨_,rfl,zz4⟩,trivial⟩
theorem ok86:OKP (en86 F86):=ST.ok1 (q86 F126 (N9 FUEL) (Xb FUEL)) (Aa zzs Ab) Tryz.func86 [3] ⟨⟨_,rfl,zz5⟩,trivial⟩
abbrev FT47:=(R:Type)→LI→(LI→Option R)→Option R
def en47 (F:FT47):Ent:=eV 47 [(.sl (.int .u8))] [(.arr 32 (.int .u8))] F
def p47 (F84:FT84) (F85:FT85) (F86:FT86) (F87:FT87) (F88:FT88):FT47:=fun R a0 k=>
F85 R a0 fun y1=>
F84 R y1 fun y2 y3=>
F88 R  fun y4=>
F87 R y4 y2 fun y5=>
F86 R y5 fun y6=>
k y6
theorem q47 (F84:FT84) (F85:FT85) (F86:FT86) (F87:FT87) (F88:FT88):EQ (en47 (p47 F84 F85 F86 F87 F88)) (sE 0 15 [] [en84 F84,en85 F85,en86 F86,en87 F87,en88 F88] []) Tryz.f47 [(.cell 2 24,24,false)]:=fun _ _ _=>by kernel_rfl
def F47:FT47:=p47 F84 F85 F86 F87 F88
theorem ok47:OKP (en47 F47):=ST.ok0 (q47 F84 F85 F86 F87 F88) (Aa ok84 (Aa ok85 (Aa ok86 (Aa ok87 (Aa ok88 Ab))))) Tryz.func47
abbrev FT26:=(R:Type)→LI→(LI→Option R)→Option R
def en26 (F:FT26):Ent:=eV 26 [(.arr 32 (.int .u8))] [(.arr 32 (.int .u8))] F
def p26 (F45:FT45) (F47:FT47):FT26:=fun R a0 k=>
F45 R a0 fun y1=>
F47 R y1 fun y2=>
k y2
theorem q26 (F45:FT45) (F47:FT47):EQ (en26 (p26 F45 F47)) (sE 0 6 [] [en45 F45,en47 F47] []) Tryz.f26 [(.cell 2 24,24,false)]:=fun _ _ _=>by kernel_rfl
def F26:FT26:=p26 F45 F47
theorem ok26:OKP (en26 F26):=ST.ok0 (q26 F45 F47) (Aa ok45 (Aa ok47 Ab)) Tryz.func26
abbrev zcf:Type 1:=(R:Type)→LI→(LI→Option R)→Option R
def en144 (F:zcf):Ent:=⟨144,[(false,(.sl (.int .u8)))],[(true,(.int .u8))],fun R x k=>F R x.1 (fun y1=>k (y1,()) ())⟩
def e144:Env (RT [(true,(.int .u8))]):=⟨TT,EQT,0,8,Bm [(2,0),(3,0)],fun _ _ _=>none,fun _ _ _=>none,[],Bc [],[],fun _ _ _ _=>none⟩
def F144:zcf:=fun R a0 k=>match decide (List.length ([]:LI)+a0.length≤140737488355328) with | true=>k a0 | false=>none
theorem ok144:(en144 F144).OK Tryz.prog:=
 I6 (e:=(.int .u8)) e144 ⟨tabOK,eqOK,(fun f b K r h=>by cases h),Bw,Ak,noYl⟩ mixed Tryz.func144 (body:=Ag Tryz.f144) (by kernel_rfl) (by kernel_rfl) (by kernel_rfl) (res:=[(.tmp 2,25,true)]) (by kernel_rfl) rfl (by decide) (by kernel_rfl) (lim:=140737488355328) (by kernel_rfl) (fun l=>by kernel_rfl)
abbrev zn6:=(R:Type)→(Tq2→Option R)→Option R
def en106 (F:zn6):Ent:=eV 106 [] [Kq2] F
def p106:zn6:=fun R k=>
k ((32:Int),(FnV.fn 143),(FnV.fn 145),())
theorem q106:EQ (en106 p106) (sE 0 2 [] [] []) Tryz.f106 [(.cell 0 146,146,false)]:=fun _ _ _=>by kernel_rfl
def F106:zn6:=p106
theorem ok106:OKP (en106 F106):=ST.ok0 q106 Ab Tryz.func106
abbrev zn5:=(R:Type)→(Tq2→Option R)→Option R
def en107 (F:zn5):Ent:=eV 107 [] [Kq2] F
def p107:zn5:=fun R k=>
k ((8:Int),(FnV.fn 146),(FnV.fn 147),())
theorem q107:EQ (en107 p107) (sE 0 2 [] [] []) Tryz.f107 [(.cell 0 146,146,false)]:=fun _ _ _=>by kernel_rfl
def F107:zn5:=p107
theorem ok107:OKP (en107 F107):=ST.ok0 q107 Ab Tryz.func107
abbrev Ho:Type 1:=(R:Type)→(Tq2→Option R)→Option R
def Gf (F:Ho):EntF:=⟨149,150,[],[(false,Kq2)],fun R x k=>F R  (fun y1=>k (y1,()) ())⟩
def Vj:List (ResultVar×TypeId×Bool):=[(.cell 2 146,146,false)]
def zar (R:Type):Env R:=⟨TT,EQT,0,6,Bm [],Bd [] R,Bl [] R,[],Bc [],[],fun _ _ _ _=>none⟩
def Y1:Ho:=fun R k=>
k ((4:Int),(FnV.clo 191 (FnV.fn 150)),(FnV.clo 193 (FnV.fn 150)),())
theorem zyk (F:Ho) (R:Type) (x:AT (Gf F).ins) (k:RT (Gf F).outs→PT (Gf F).ins→Option R):
 xfun (zar R) (Ag Tryz.f149) Vj (avs (Gf F).ins x++[AV.fn 150]) (finK (Gf F).outs (Gf F).ins k)=Y1 R  (fun y1=>k (y1,()) ()):=by kernel_rfl
def Eh:Ho:=Y1
theorem zkw (R:Type):Az Tryz.prog (zar R):=⟨tabOK,eqOK,Aq Ab,Bw,Ak,noYl⟩
theorem zrp:(Gf Eh).OK Tryz.prog:=
 Jy (Ef:=fun R=>zar R) (fun R=>zkw R) mixed Tryz.func149 (body:=Ag Tryz.f149) (by kernel_rfl) (by kernel_rfl) (np:=0) (nt:=6) (fun _=>rfl) (fun _=>rfl) (by kernel_rfl) (res:=Vj) (by kernel_rfl) (fun _=>rfl) (fun _=>Nat.le_of_ble_eq_true rfl) (by
  intro R;rw [show Am (Ag Tryz.f149)=[] from by kernel_rfl];exact Bx) (fun R x k=>zyk Eh R x k)
abbrev zn4:=(R:Type)→(Tq2→Option R)→Option R
def en108 (F:zn4):Ent:=eV 108 [] [Kq2] F
def e108 (Eh:Ho) (R:Type):Env R:=⟨TT,EQT,0,2,Bm [],E6 [Gf Eh] [] R,Bl [] R,[],Bc [],[],fun _ _ _ _=>none⟩
def p108 (Eh:Ho):zn4:=fun R k=>
Eh R  fun y1=>
k y1
theorem q108 (Eh:Ho):EQ (en108 (p108 Eh)) (e108 Eh) Tryz.f108 [(.cell 0 146,146,false)]:=fun _ _ _=>by kernel_rfl
def F108:zn4:=p108 Eh
theorem env108 (R:Type):Az Tryz.prog (e108 Eh R):=⟨tabOK,eqOK,C0 (F4 zrp Fc) Ab,Bw,Ak,noYl⟩
theorem ok108:OKP (en108 F108):=ST.ok3 (q108 Eh) env108 Tryz.func108 (fun _=>rfl) (fun _=>rfl) (fun _=>rfl) [] trivial
abbrev Hn:Type 1:=(R:Type)→(Tq2→Option R)→Option R
def Ge (F:Hn):EntF:=⟨149,151,[],[(false,Kq2)],fun R x k=>F R  (fun y1=>k (y1,()) ())⟩
def Vi:List (ResultVar×TypeId×Bool):=[(.cell 2 146,146,false)]
def zaq (R:Type):Env R:=⟨TT,EQT,0,6,Bm [],Bd [] R,Bl [] R,[],Bc [],[],fun _ _ _ _=>none⟩
def Y0:Hn:=fun R k=>
k ((4:Int),(FnV.clo 191 (FnV.fn 151)),(FnV.clo 193 (FnV.fn 151)),())
theorem zyj (F:Hn) (R:Type) (x:AT (Ge F).ins) (k:RT (Ge F).outs→PT (Ge F).ins→Option R):
 xfun (zaq R) (Ag Tryz.f149) Vi (avs (Ge F).ins x++[AV.fn 151]) (finK (Ge F).outs (Ge F).ins k)=Y0 R  (fun y1=>k (y1,()) ()):=by kernel_rfl
def Ee:Hn:=Y0
theorem zkv (R:Type):Az Tryz.prog (zaq R):=⟨tabOK,eqOK,Aq Ab,Bw,Ak,noYl⟩
theorem zro:(Ge Ee).OK Tryz.prog:=
 Jy (Ef:=fun R=>zaq R) (fun R=>zkv R) mixed Tryz.func149 (body:=Ag Tryz.f149) (by kernel_rfl) (by kernel_rfl) (np:=0) (nt:=6) (fun _=>rfl) (fun _=>rfl) (by kernel_rfl) (res:=Vi) (by kernel_rfl) (fun _=>rfl) (fun _=>Nat.le_of_ble_eq_true rfl) (by
  intro R;rw [show Am (Ag Tryz.f149)=[] from by kernel_rfl];exact Bx) (fun R x k=>zyj Ee R x k)
abbrev zn3:=(R:Type)→(Tq2→Option R)→Option R
def en109 (F:zn3):Ent:=eV 109 [] [Kq2] F
def e109 (Ee:Hn) (R:Type):Env R:=⟨TT,EQT,0,2,Bm [],E6 [Ge Ee] [] R,Bl [] R,[],Bc [],[],fun _ _ _ _=>none⟩
def p109 (Ee:Hn):zn3:=fun R k=>
Ee R  fun y1=>
k y1
theorem q109 (Ee:Hn):EQ (en109 (p109 Ee)) (e109 Ee) Tryz.f109 [(.cell 0 146,146,false)]:=fun _ _ _=>by kernel_rfl
def F109:zn3:=p109 Ee
theorem env109 (R:Type):Az Tryz.prog (e109 Ee R):=⟨tabOK,eqOK,C0 (F4 zro Fc) Ab,Bw,Ak,noYl⟩
theorem ok109:OKP (en109 F109):=ST.ok3 (q109 Ee) env109 Tryz.func109 (fun _=>rfl) (fun _=>rfl) (fun _=>rfl) [] trivial
abbrev FT67:=(R:Type)→Int→((List Tq2)→Bool→Option R)→Option R
def en67 (F:FT67):Ent:=eV 67 [(.int .i64)] [(.sl Kq2),.bool] F
def p67 (F106:zn6) (F107:zn5) (F108:zn4) (F109:zn3):FT67:=fun R a0 k=>
let v1:=a0==1;(match v1 with
|true=>F106 R  fun y2=>
F107 R  fun y3=>
let v4:=([y2,y3]:(List Tq2));k v4 true
|false=>let v5:=a0==2;(match v5 with
|true=>F108 R  fun y6=>
F107 R  fun y7=>
let v8:=([y6,y7]:(List Tq2));k v8 true
|false=>let v9:=a0==3;(match v9 with
|true=>F108 R  fun y10=>
F107 R  fun y11=>
let v12:=([y10,y11]:(List Tq2));k v12 true
|false=>let v13:=a0==4;(match v13 with
|true=>F108 R  fun y14=>
F106 R  fun y15=>
let v16:=([y14,y15]:(List Tq2));k v16 true
|false=>let v17:=a0==5;(match v17 with
|true=>F108 R  fun y18=>
F106 R  fun y19=>
let v20:=([y18,y19]:(List Tq2));k v20 true
|false=>let v21:=a0==6;(match v21 with
|true=>k ([]:(List Tq2)) true
|false=>let v22:=a0==11;(match v22 with
|true=>k ([]:(List Tq2)) true
|false=>let v23:=a0==7;(match v23 with
|true=>F109 R  fun y24=>
let v25:=([y24]:(List Tq2));k v25 true
|false=>let v26:=a0==8;(match v26 with
|true=>F109 R  fun y27=>
let v28:=([y27]:(List Tq2));k v28 true
|false=>let v29:=a0==9;(match v29 with
|true=>F109 R  fun y30=>
F108 R  fun y31=>
let v32:=([y30,y31]:(List Tq2));k v32 true
|false=>let v33:=a0==10;(match v33 with
|true=>F108 R  fun y34=>
F109 R  fun y35=>
let v36:=([y34,y35]:(List Tq2));k v36 true
|false=>k ([]:(List Tq2)) false)))))))))))
theorem q67 (F106:zn6) (F107:zn5) (F108:zn4) (F109:zn3):EQ (en67 (p67 F106 F107 F108 F109)) (sE 0 40 [] [en106 F106,en107 F107,en108 F108,en109 F109] []) Tryz.f67 [(.tmp 2,141,false),(.tmp 3,4,false)]:=fun _ _ _=>by kernel_rfl
def F67:FT67:=p67 F106 F107 F108 F109
theorem ok67:OKP (en67 F67):=ST.ok0 (q67 F106 F107 F108 F109) (Aa ok106 (Aa ok107 (Aa ok108 (Aa ok109 Ab)))) Tryz.func67
abbrev FT43:=(R:Type)→Tq6→(LI→Option R)→Option R
def en43 (F:FT43):Ent:=eV 43 [Kq6] [(.sl (.int .u8))] F
abbrev D43_6 (Z:Type):=(List Tq2)→Int→Int→Tq6→LI→Z
abbrev E43_6 (R:Type):=(LI→Option R)→Option R
abbrev R5:=(R:Type)→D43_6 (E43_6 R)
def zj1 (L:R5):LEnt:=lM 6 [.fix 1 (.ptr 0 [] Kq6),.fix 5 (.own 1 0),.val 24 (.sl Kq2),.val 25 (.int .i64),.val 26 (.int .i64),.var 0 Kq6 false,.row 1 (.int .u8) false] 2 [(.exit 0,[.fix 5 (.own 1 0),.row 1 (.int .u8) false])] L
def zvu (F144:zcf) (R:Type):Env R:=⟨TT,EQT,0,6,Bm [],Bd [en144 F144] R,fun _ _ _=>none,[],Bc [],[],fun _ _ _ _=>none⟩
theorem ztr (R:Type):Az Tryz.prog (zvu F144 R):=⟨tabOK,eqOK,Aq (Aa ok144 Ab),Bw,Ak,noYl⟩
def zvs (F92:FT92) (R:Type):Env R:=⟨TT,EQT,0,8,Bm [],Bd [en92 F92] R,fun _ _ _=>none,[],Bc [],[],fun _ _ _ _=>none⟩
theorem ztp (R:Type):Az Tryz.prog (zvs F92 R):=⟨tabOK,eqOK,Aq (Aa ok92 Ab),Bw,Ak,noYl⟩
def zlf (R:Type):Env R:=⟨TT,EQT,0,6,Bm [],Bd [] R,fun _ _ _=>none,[],Bc [],[],fun _ _ _ _=>none⟩
theorem zd9 (R:Type):Az Tryz.prog (zlf R):=⟨tabOK,eqOK,Aq Ab,Bw,Ak,noYl⟩
def zle (R:Type):Env R:=⟨TT,EQT,0,6,Bm [],Bd [] R,fun _ _ _=>none,[],Bc [],[],fun _ _ _ _=>none⟩
theorem zd8 (R:Type):Az Tryz.prog (zle R):=⟨tabOK,eqOK,Aq Ab,Bw,Ak,noYl⟩
def zvq (F192:Ob) (R:Type):Env R:=⟨TT,EQT,0,12,Bm [(1,1)],Bd [zk4 F192] R,fun _ _ _=>none,[],Bc [(150,xinl (zlf R) (Ag Tryz.f150) [.tmp 2] 1),(151,xinl (zle R) (Ag Tryz.f151) [.tmp 2] 1)],[(FnV.fn 150),(FnV.fn 151)],fun _ _ _ _=>none⟩
theorem ztn (R:Type):Az Tryz.prog (zvq F192 R):=⟨tabOK,eqOK,Aq (Aa zrl Ab),Bw,(A9 (Bb (zd9 R) mixed Tryz.func150 (body:=Ag Tryz.f150) (by kernel_rfl) (by kernel_rfl) (by kernel_rfl) (res:=[.tmp 2]) (by kernel_rfl) (n:=1) (Nat.le_of_ble_eq_true rfl) (by kernel_rfl)) (A9 (Bb (zd8 R) mixed Tryz.func151 (body:=Ag Tryz.f151) (by kernel_rfl) (by kernel_rfl) (by kernel_rfl) (res:=[.tmp 2]) (by kernel_rfl) (n:=1) (Nat.le_of_ble_eq_true rfl) (by kernel_rfl)) Ak)),noYl⟩
def e43 (F67:FT67) (F92:FT92) (F144:zcf) (F192:Ob) (L6:R5) (R:Type):Env R:=⟨TT,EQT,0,38,Bm [(4,3),(8,4)],Bd [en67 F67,en92 F92,en144 F144,zk4 F192] R,Bl [zj1 L6] R,[],Bc [(143,xinl (zvu F144 R) (Ag Tryz.f143) [.tmp 2] 1),(146,xinl (zvs F92 R) (Ag Tryz.f146) [.tmp 2] 1),(191,xinl (zvq F192 R) (Ag Tryz.f191) [.tmp 3] 2)],[(FnV.fn 143),(FnV.fn 146),(FnV.clo 191 (FnV.fn 150)),(FnV.clo 191 (FnV.fn 151))],fun _ _ _ _=>none⟩
def zy5 (F92:FT92) (F144:zcf) (F192:Ob) (R:Type):D43_6 (D43_6 (Option R)→E43_6 R):=fun x1 x2 x3 x4 x5 kc k0=>
let v6:=decide (x3<x2);(match v6 with
|true=>(match bnd x3 x1.length with
|true=>let v7:=x1.getD x3.toNat (0,FnV.nil,FnV.nil,());(match (FnV.same v7.2.1 (FnV.fn 143)) with
|true=>F144 R (List.take 32 (List.drop 0 x4.2.2.2.1)) fun y8=>
(match (decide (x5.length+y8.length≤140737488355328)) with
|true=>let v9:=x5++y8;let v10:=IntKind.i64.wrap (x3+1);kc x1 x2 v10 x4 v9
|false=>none)
|false=>(match (FnV.same v7.2.1 (FnV.fn 146)) with
|true=>F92 R x4.2.2.1 fun y11=>
(match (decide (x5.length+List.length (List.take 8 (List.drop 0 y11))≤140737488355328)) with
|true=>let v12:=x5++(List.take 8 (List.drop 0 y11));let v13:=IntKind.i64.wrap (x3+1);kc x1 x2 v13 x4 v12
|false=>none)
|false=>(match (FnV.same v7.2.1 (FnV.clo 191 (FnV.fn 150))) with
|true=>let v14:=IntKind.u32.wrap x4.2.1;F192 R v14 fun y15=>
(match (decide (x5.length+List.length (List.take 4 (List.drop 0 y15))≤140737488355328)) with
|true=>let v16:=x5++(List.take 4 (List.drop 0 y15));let v17:=IntKind.i64.wrap (x3+1);kc x1 x2 v17 x4 v16
|false=>none)
|false=>(match (FnV.same v7.2.1 (FnV.clo 191 (FnV.fn 151))) with
|true=>let v18:=IntKind.u32.wrap x4.2.2.2.2.1;F192 R v18 fun y19=>
(match (decide (x5.length+List.length (List.take 4 (List.drop 0 y19))≤140737488355328)) with
|true=>let v20:=x5++(List.take 4 (List.drop 0 y19));let v21:=IntKind.i64.wrap (x3+1);kc x1 x2 v21 x4 v20
|false=>none)
|false=>none))))
|false=>none)
|false=>k0 x5)
theorem q43_6 (F67:FT67) (F92:FT92) (F144:zcf) (F192:Ob) (L6:R5):LEQ (zj1 L6) (e43 F67 F92 F144 F192 L6) Tryz.f43 (zy5 F92 F144 F192):=fun _ _ _ _=>by kernel_rfl
def Xf:Nat→R5
 | 0=>fun _ _ _ _ _ _ _=>none
 | n+1=>fun R x1 x2 x3 x4 x5 k0=>zy5 F92 F144 F192 R x1 x2 x3 x4 x5 (fun x1 x2 x3 x4 x5=>Xf n R x1 x2 x3 x4 x5 k0) k0
def p43 (F67:FT67) (L6:R5):FT43:=fun R a0 k=>
F67 R a0.1 fun y1 y2=>
(match (!y2) with
|true=>let v3:=IntKind.u8.wrap a0.2.2.2.2.1;let v4:=([v3]:LI);k v4
|false=>let v5:=IntKind.u8.wrap a0.1;let v6:=([v5]:LI);let v7:=(y1.length:Int);L6 R y1 v7 (0:Int) a0 v6 (fun x8=>
k x8))
theorem q43 (F67:FT67) (F92:FT92) (F144:zcf) (F192:Ob) (L6:R5):EQ (en43 (p43 F67 L6)) (e43 F67 F92 F144 F192 L6) Tryz.f43 [(.tmp 2,25,false)]:=fun _ _ _=>by kernel_rfl
def F43:FT43:=p43 F67 (Xf FUEL)
theorem env43 (R:Type):Az Tryz.prog (e43 F67 F92 F144 F192 (Xf FUEL) R):=⟨tabOK,eqOK,Aq (Aa ok67 (Aa ok92 (Aa ok144 (Aa zrl Ab)))),Bw,(A9 (Bb (ztr R) mixed Tryz.func143 (body:=Ag Tryz.f143) (by kernel_rfl) (by kernel_rfl) (by kernel_rfl) (res:=[.tmp 2]) (by kernel_rfl) (n:=1) (Nat.le_of_ble_eq_true rfl) (by kernel_rfl)) (A9 (Bb (ztp R) mixed Tryz.func146 (body:=Ag Tryz.f146) (by kernel_rfl) (by kernel_rfl) (by kernel_rfl) (res:=[.tmp 2]) (by kernel_rfl) (n:=1) (Nat.le_of_ble_eq_true rfl) (by kernel_rfl)) (A9 (Bb (ztn R) mixed Tryz.func191 (body:=Ag Tryz.f191) (by kernel_rfl) (by kernel_rfl) (by kernel_rfl) (res:=[.tmp 3]) (by kernel_rfl) (n:=2) (Nat.le_of_ble_eq_true rfl) (by kernel_rfl)) Ak))),noYl⟩
theorem lok43_6:LKP (zj1 (Xf FUEL)) 0 38 6 Tryz.f43:=ST.lok3 (q43_6 F67 F92 F144 F192 (Xf FUEL)) env43 (fun _=>rfl) (fun _=>rfl) (fun _=>rfl) [] trivial
theorem ok43:OKP (en43 F43):=ST.ok3 (q43 F67 F92 F144 F192 (Xf FUEL)) env43 Tryz.func43 (fun _=>rfl) (fun _=>rfl) (fun _=>rfl) [6] ⟨⟨_,rfl,lok43_6⟩,trivial⟩
abbrev FT83:=(R:Type)→Int→(Int→Bool→Option R)→Option R
def en83 (F:FT83):Ent:=eV 83 [(.int .i64)] [(.int .i64),.bool] F
abbrev D83_6 (Z:Type):=Int→(List Tq2)→Int→Int→Z
abbrev E83_6 (R:Type):=(Int→Option R)→Option R
abbrev Ry:=(R:Type)→D83_6 (E83_6 R)
def zjr (L:Ry):LEnt:=lM 6 [.val 6 (.int .i64),.val 16 (.sl Kq2),.val 17 (.int .i64),.val 18 (.int .i64)] 0 [(.exit 0,[.val 6 (.int .i64)])] L
def e83 (F67:FT67) (L6:Ry):=sE 0 28 [] [en67 F67] [zjr L6]
def zyx (R:Type):D83_6 (D83_6 (Option R)→E83_6 R):=fun x1 x2 x3 x4 kc k0=>
let v5:=decide (x4<x3);(match v5 with
|true=>(match bnd x4 x2.length with
|true=>let v6:=x2.getD x4.toNat (0,FnV.nil,FnV.nil,());let v7:=IntKind.i64.wrap (x1+v6.1);let v8:=IntKind.i64.wrap (x4+1);kc v7 x2 x3 v8
|false=>none)
|false=>k0 x1)
theorem q83_6 (F67:FT67) (L6:Ry):LEQ (zjr L6) (e83 F67 L6) Tryz.f83 zyx:=fun _ _ _ _=>by kernel_rfl
def za6:Nat→Ry
 | 0=>fun _ _ _ _ _ _=>none
 | n+1=>fun R x1 x2 x3 x4 k0=>zyx R x1 x2 x3 x4 (fun x1 x2 x3 x4=>za6 n R x1 x2 x3 x4 k0) k0
def p83 (F67:FT67) (L6:Ry):FT83:=fun R a0 k=>
F67 R a0 fun y1 y2=>
(match (!y2) with
|true=>k (0:Int) false
|false=>let v3:=(y1.length:Int);L6 R (1:Int) y1 v3 (0:Int) (fun x4=>
k x4 true))
theorem q83 (F67:FT67) (L6:Ry):EQ (en83 (p83 F67 L6)) (e83 F67 L6) Tryz.f83 [(.tmp 2,3,false),(.tmp 3,4,false)]:=fun _ _ _=>by kernel_rfl
def F83:FT83:=p83 F67 (za6 FUEL)
theorem zz8:LKP (zjr (za6 FUEL)) 0 28 6 Tryz.f83:=ST.lok (q83_6 F67 (za6 FUEL)) (Aa ok67 Ab) [] trivial
theorem ok83:OKP (en83 F83):=ST.ok1 (q83 F67 (za6 FUEL)) (Aa ok67 Ab) Tryz.func83 [6] ⟨⟨_,rfl,zz8⟩,trivial⟩
abbrev FT44:=(R:Type)→LI→(Bool→Option R)→Option R
def en44 (F:FT44):Ent:=eV 44 [(.sl (.int .u8))] [.bool] F
def p44 (F83:FT83):FT44:=fun R a0 k=>
(match bnd 0 a0.length with
|true=>let v1:=a0.getD 0 0;let v2:=IntKind.i64.wrap v1;F83 R v2 fun y3 y4=>
(match (!y4) with
|true=>k true
|false=>let v5:=(a0.length:Int);let v6:=decide (y3≤v5);k v6)
|false=>none)
theorem q44 (F83:FT83):EQ (en44 (p44 F83)) (sE 0 21 [] [en83 F83] []) Tryz.f44 [(.tmp 2,4,false)]:=fun _ _ _=>by kernel_rfl
def F44:FT44:=p44 F83
theorem ok44:OKP (en44 F44):=ST.ok0 (q44 F83) (Aa ok83 Ab) Tryz.func44
abbrev FT37:=(R:Type)→LI→(Tq6→LI→Option R)→Option R
def en37 (F:FT37):Ent:=eV 37 [(.sl (.int .u8))] [Kq6,(.sl (.int .u8))] F
abbrev zpd (Z:Type):=LI→(List Tq2)→Int→Int→Tq6→Tq6→Z
abbrev zww (R:Type):=(LI→Tq6→Tq6→Option R)→Option R
abbrev Ml:=(R:Type)→zpd (zww R)
def Ze (L:Ml):LEnt:=lM 10 [.val 0 (.sl (.int .u8)),.fix 2 (.ptr 0 [] Kq6),.fix 7 (.ptr 1 [] Kq6),.val 36 (.sl Kq2),.val 37 (.int .i64),.val 38 (.int .i64),.var 0 Kq6 false,.var 1 Kq6 false] 2 [(.exit 1,[.val 0 (.sl (.int .u8)),.fix 2 (.ptr 0 [] Kq6),.fix 7 (.ptr 1 [] Kq6),.var 0 Kq6 false,.var 1 Kq6 false])] L
def zvt (R:Type):Env R:=⟨TT,EQT,0,10,Bm [],Bd [] R,fun _ _ _=>none,[],Bc [],[],fun _ _ _ _=>none⟩
theorem ztq (R:Type):Az Tryz.prog (zvt R):=⟨tabOK,eqOK,Aq Ab,Bw,Ak,noYl⟩
def zvr (F148:X5) (R:Type):Env R:=⟨TT,EQT,0,11,Bm [],Bd [zub F148] R,fun _ _ _=>none,[],Bc [],[],fun _ _ _ _=>none⟩
theorem zto (R:Type):Az Tryz.prog (zvr F148 R):=⟨tabOK,eqOK,Aq (Aa ok148 Ab),Bw,Ak,noYl⟩
def zvp (F194:Oa) (R:Type):Env R:=⟨TT,EQT,0,14,Bm [(0,2)],Bd [zk3 F194] R,fun _ _ _=>none,[],Bc [(150,xinl (zlf R) (Ag Tryz.f150) [.tmp 2] 1),(151,xinl (zle R) (Ag Tryz.f151) [.tmp 2] 1)],[(FnV.fn 150),(FnV.fn 151)],fun _ _ _ _=>none⟩
theorem ztm (R:Type):Az Tryz.prog (zvp F194 R):=⟨tabOK,eqOK,Aq (Aa zrk Ab),Bw,(A9 (Bb (zd9 R) mixed Tryz.func150 (body:=Ag Tryz.f150) (by kernel_rfl) (by kernel_rfl) (by kernel_rfl) (res:=[.tmp 2]) (by kernel_rfl) (n:=1) (Nat.le_of_ble_eq_true rfl) (by kernel_rfl)) (A9 (Bb (zd8 R) mixed Tryz.func151 (body:=Ag Tryz.f151) (by kernel_rfl) (by kernel_rfl) (by kernel_rfl) (res:=[.tmp 2]) (by kernel_rfl) (n:=1) (Nat.le_of_ble_eq_true rfl) (by kernel_rfl)) Ak)),noYl⟩
def e37 (F44:FT44) (F67:FT67) (F148:X5) (F194:Oa) (L10:Ml) (R:Type):Env R:=⟨TT,EQT,0,56,Bm [(12,6)],Bd [en44 F44,en67 F67,zub F148,zk3 F194] R,Bl [Ze L10] R,[],Bc [(145,xinl (zvt R) (Ag Tryz.f145) [] 2),(147,xinl (zvr F148 R) (Ag Tryz.f147) [] 2),(193,xinl (zvp F194 R) (Ag Tryz.f193) [] 3)],[(FnV.fn 145),(FnV.fn 147),(FnV.clo 193 (FnV.fn 150)),(FnV.clo 193 (FnV.fn 151))],fun _ _ _ _=>none⟩
def Vq (F148:X5) (F194:Oa) (R:Type):zpd (zpd (Option R)→zww R):=fun x1 x2 x3 x4 x5 x6 kc k0=>
let v7:=decide (x4<x3);(match v7 with
|true=>(match bnd x4 x2.length with
|true=>let v8:=x2.getD x4.toNat (0,FnV.nil,FnV.nil,());(match (decide (0≤(0:Int)∧(0:Int)≤v8.1∧v8.1≤v8.1∧v8.1≤(x1.length:Int))) with
|true=>let v9:=List.take (Int.toNat (v8.1 - 0)) (List.drop 0 x1);(match (FnV.same v8.2.2.1 (FnV.fn 145)) with
|true=>(match (decide ((32:Int)≤(v9.length:Int))) with
|true=>let v10:=List.take 32 v9;(match (decide (0≤v8.1∧v8.1≤(x1.length:Int)∧(x1.length:Int)≤(x1.length:Int)∧(x1.length:Int)≤(x1.length:Int))) with
|true=>let v11:=List.take (Int.toNat ((x1.length:Int) - v8.1)) (List.drop v8.1.toNat x1);let v12:=IntKind.i64.wrap (x4+1);kc v11 x2 x3 v12 x5 (x6.1,x6.2.1,x6.2.2.1,v10,x6.2.2.2.2)
|false=>none)
|false=>none)
|false=>(match (FnV.same v8.2.2.1 (FnV.fn 147)) with
|true=>(match (decide ((8:Int)≤(v9.length:Int))) with
|true=>let v13:=List.take 8 v9;F148 R v13 fun y14=>
(match (decide (0≤v8.1∧v8.1≤(x1.length:Int)∧(x1.length:Int)≤(x1.length:Int)∧(x1.length:Int)≤(x1.length:Int))) with
|true=>let v15:=List.take (Int.toNat ((x1.length:Int) - v8.1)) (List.drop v8.1.toNat x1);let v16:=IntKind.i64.wrap (x4+1);kc v15 x2 x3 v16 x5 (x6.1,x6.2.1,y14,x6.2.2.2.1,x6.2.2.2.2)
|false=>none)
|false=>none)
|false=>(match (FnV.same v8.2.2.1 (FnV.clo 193 (FnV.fn 150))) with
|true=>(match (decide ((4:Int)≤(v9.length:Int))) with
|true=>let v17:=List.take 4 v9;F194 R v17 fun y18=>
let v19:=IntKind.i64.wrap y18;(match (decide (0≤v8.1∧v8.1≤(x1.length:Int)∧(x1.length:Int)≤(x1.length:Int)∧(x1.length:Int)≤(x1.length:Int))) with
|true=>let v20:=List.take (Int.toNat ((x1.length:Int) - v8.1)) (List.drop v8.1.toNat x1);let v21:=IntKind.i64.wrap (x4+1);kc v20 x2 x3 v21 x5 (x6.1,v19,x6.2.2.1,x6.2.2.2.1,x6.2.2.2.2)
|false=>none)
|false=>none)
|false=>(match (FnV.same v8.2.2.1 (FnV.clo 193 (FnV.fn 151))) with
|true=>(match (decide ((4:Int)≤(v9.length:Int))) with
|true=>let v22:=List.take 4 v9;F194 R v22 fun y23=>
let v24:=IntKind.i64.wrap y23;(match (decide (0≤v8.1∧v8.1≤(x1.length:Int)∧(x1.length:Int)≤(x1.length:Int)∧(x1.length:Int)≤(x1.length:Int))) with
|true=>let v25:=List.take (Int.toNat ((x1.length:Int) - v8.1)) (List.drop v8.1.toNat x1);let v26:=IntKind.i64.wrap (x4+1);kc v25 x2 x3 v26 x5 (x6.1,x6.2.1,x6.2.2.1,x6.2.2.2.1,v24,x6.2.2.2.2.2)
|false=>none)
|false=>none)
|false=>none))))
|false=>none)
|false=>none)
|false=>k0 x1 x5 x6)
theorem q37_10 (F44:FT44) (F67:FT67) (F148:X5) (F194:Oa) (L10:Ml):LEQ (Ze L10) (e37 F44 F67 F148 F194 L10) Tryz.f37 (Vq F148 F194):=fun _ _ _ _=>by kernel_rfl
def In:Nat→Ml
 | 0=>fun _ _ _ _ _ _ _ _=>none
 | n+1=>fun R x1 x2 x3 x4 x5 x6 k0=>Vq F148 F194 R x1 x2 x3 x4 x5 x6 (fun x1 x2 x3 x4 x5 x6=>In n R x1 x2 x3 x4 x5 x6 k0) k0
def p37 (F44:FT44) (F67:FT67) (L10:Ml):FT37:=fun R a0 k=>
(match bnd 0 a0.length with
|true=>let v1:=a0.getD 0 0;let v2:=IntKind.i64.wrap v1;F67 R v2 fun y3 y4=>
(match (!y4) with
|true=>(match (decide (0≤(1:Int)∧(1:Int)≤(a0.length:Int)∧(a0.length:Int)≤(a0.length:Int)∧(a0.length:Int)≤(a0.length:Int))) with
|true=>let v5:=List.take (Int.toNat ((a0.length:Int) - (1:Int))) (List.drop 1 a0);k ((0:Int),(0:Int),(0:Int),(List.replicate 32 (0:Int)),v2,()) v5
|false=>none)
|false=>F44 R a0 fun y6=>
(match (!y6) with
|true=>k ((0:Int),(0:Int),(0:Int),(List.replicate 32 (0:Int)),v2,()) ([]:LI)
|false=>(match (decide (0≤(1:Int)∧(1:Int)≤(a0.length:Int)∧(a0.length:Int)≤(a0.length:Int)∧(a0.length:Int)≤(a0.length:Int))) with
|true=>let v7:=List.take (Int.toNat ((a0.length:Int) - (1:Int))) (List.drop 1 a0);let v8:=(y3.length:Int);L10 R v7 y3 v8 (0:Int) ((0:Int),(0:Int),(0:Int),(List.replicate 32 (0:Int)),(0:Int),()) (v2,(0:Int),(0:Int),(List.replicate 32 (0:Int)),(0:Int),()) (fun x9 x10 x11=>
k x11 x9)
|false=>none)))
|false=>none)
theorem q37 (F44:FT44) (F67:FT67) (F148:X5) (F194:Oa) (L10:Ml):EQ (en37 (p37 F44 F67 L10)) (e37 F44 F67 F148 F194 L10) Tryz.f37 [(.cell 2 49,49,false),(.tmp 3,25,false)]:=fun _ _ _=>by kernel_rfl
def F37:FT37:=p37 F44 F67 (In FUEL)
theorem env37 (R:Type):Az Tryz.prog (e37 F44 F67 F148 F194 (In FUEL) R):=⟨tabOK,eqOK,Aq (Aa ok44 (Aa ok67 (Aa ok148 (Aa zrk Ab)))),Bw,(A9 (Bb (ztq R) mixed Tryz.func145 (body:=Ag Tryz.f145) (by kernel_rfl) (by kernel_rfl) (by kernel_rfl) (res:=[]) (by kernel_rfl) (n:=2) (Nat.le_of_ble_eq_true rfl) (by kernel_rfl)) (A9 (Bb (zto R) mixed Tryz.func147 (body:=Ag Tryz.f147) (by kernel_rfl) (by kernel_rfl) (by kernel_rfl) (res:=[]) (by kernel_rfl) (n:=2) (Nat.le_of_ble_eq_true rfl) (by kernel_rfl)) (A9 (Bb (ztm R) mixed Tryz.func193 (body:=Ag Tryz.f193) (by kernel_rfl) (by kernel_rfl) (by kernel_rfl) (res:=[]) (by kernel_rfl) (n:=3) (Nat.le_of_ble_eq_true rfl) (by kernel_rfl)) Ak))),noYl⟩
theorem zrx:LKP (Ze (In FUEL)) 0 56 10 Tryz.f37:=ST.lok3 (q37_10 F44 F67 F148 F194 (In FUEL)) env37 (fun _=>rfl) (fun _=>rfl) (fun _=>rfl) [] trivial
theorem ok37:OKP (en37 F37):=ST.ok3 (q37 F44 F67 F148 F194 (In FUEL)) env37 Tryz.func37 (fun _=>rfl) (fun _=>rfl) (fun _=>rfl) [10] ⟨⟨_,rfl,zrx⟩,trivial⟩
abbrev FT21:=(R:Type)→Tq6→(Bool→Option R)→Option R
def en21 (F:FT21):Ent:=eV 21 [Kq6] [.bool] F
def p21 (F37:FT37) (F43:FT43) (F44:FT44):FT21:=fun R a0 k=>
let v1:=decide (a0.2.1<0);(match v1 with
|true=>k false
|false=>let v2:=decide (a0.2.1>4294967295);(match v2 with
|true=>k false
|false=>let v3:=decide (a0.2.2.2.2.1<0);(match v3 with
|true=>k false
|false=>let v4:=decide (a0.2.2.2.2.1>4294967295);(match v4 with
|true=>k false
|false=>F43 R a0 fun y5=>
F37 R y5 fun y6 y7=>
let v8:=Kd.eqv Kq6 y6 a0;(match v8 with
|true=>let v9:=(y7.length:Int);let v10:=v9==0;(match v10 with
|true=>F44 R y5 fun y11=>
k y11
|false=>k false)
|false=>k false)))))
theorem q21 (F37:FT37) (F43:FT43) (F44:FT44):EQ (en21 (p21 F37 F43 F44)) (sE 0 43 [] [en37 F37,en43 F43,en44 F44] []) Tryz.f21 [(.tmp 2,4,false)]:=fun _ _ _=>by kernel_rfl
def F21:FT21:=p21 F37 F43 F44
theorem ok21:OKP (en21 F21):=ST.ok0 (q21 F37 F43 F44) (Aa ok37 (Aa ok43 (Aa ok44 Ab))) Tryz.func21
abbrev FT22:=(R:Type)→(List Tq6)→(LI→Int→Option R)→Option R
def en22 (F:FT22):Ent:=eV 22 [(.sl Kq6)] [(.sl (.int .u8)),(.int .i64)] F
abbrev D22_3 (Z:Type):=(List Tq6)→Int→Int→LI→Z
abbrev E22_3 (R:Type):=(Int→Option R)→(LI→Option R)→Option R
abbrev Sa:=(R:Type)→D22_3 (E22_3 R)
def zj7 (L:Sa):LEnt:=lM 3 [.fix 4 (.own 0 0),.val 7 (.sl Kq6),.val 8 (.int .i64),.val 9 (.int .i64),.row 0 (.int .u8) false] 1 [(.ret,[.fix 2 .nil,.val 3 (.int .i64)]),(.exit 0,[.fix 4 (.own 0 0),.row 0 (.int .u8) false])] L
def e22 (F21:FT21) (F43:FT43) (L3:Sa):=sE 0 22 [(1,0)] [en21 F21,en43 F43] [zj7 L3]
def zza (F21:FT21) (F43:FT43) (R:Type):D22_3 (D22_3 (Option R)→E22_3 R):=fun x1 x2 x3 x4 kc k0 k1=>
let v5:=decide (x3<x2);(match v5 with
|true=>(match bnd x3 x1.length with
|true=>let v6:=x1.getD x3.toNat (0,0,0,(List.replicate 32 0),0,());F21 R v6 fun y7=>
(match (!y7) with
|true=>k0 (1:Int)
|false=>F43 R v6 fun y8=>
(match (decide (x4.length+y8.length≤140737488355328)) with
|true=>let v9:=x4++y8;let v10:=IntKind.i64.wrap (x3+1);kc x1 x2 v10 v9
|false=>none))
|false=>none)
|false=>k1 x4)
theorem q22_3 (F21:FT21) (F43:FT43) (L3:Sa):LEQ (zj7 L3) (e22 F21 F43 L3) Tryz.f22 (zza F21 F43):=fun _ _ _ _=>by kernel_rfl
def zbd:Nat→Sa
 | 0=>fun _ _ _ _ _ _ _=>none
 | n+1=>fun R x1 x2 x3 x4 k0 k1=>zza F21 F43 R x1 x2 x3 x4 (fun x1 x2 x3 x4=>zbd n R x1 x2 x3 x4 k0 k1) k0 k1
def p22 (L3:Sa):FT22:=fun R a0 k=>
let v1:=(a0.length:Int);L3 R a0 v1 (0:Int) ([]:LI) (fun x2=>
k ([]:LI) x2) (fun x3=>
k x3 (0:Int))
theorem q22 (F21:FT21) (F43:FT43) (L3:Sa):EQ (en22 (p22 L3)) (e22 F21 F43 L3) Tryz.f22 [(.tmp 2,25,false),(.tmp 3,38,false)]:=fun _ _ _=>by kernel_rfl
def F22:FT22:=p22 (zbd FUEL)
theorem lok22_3:LKP (zj7 (zbd FUEL)) 0 22 3 Tryz.f22:=ST.lok (q22_3 F21 F43 (zbd FUEL)) (Aa ok21 (Aa ok43 Ab)) [] trivial
theorem ok22:OKP (en22 F22):=ST.ok1 (q22 F21 F43 (zbd FUEL)) (Aa ok21 (Aa ok43 Ab)) Tryz.func22 [3] ⟨⟨_,rfl,lok22_3⟩,trivial⟩
abbrev FT65:=(R:Type)→Int→Int→Int→(Bool→Option R)→Option R
def en65 (F:FT65):Ent:=eV 65 [(.int .i64),(.int .i64),(.int .i64)] [.bool] F
def p65:FT65:=fun R a0 a1 a2 k=>
let v1:=decide (a0≥a1);(match v1 with
|true=>let v2:=decide (a0≤a2);k v2
|false=>k false)
theorem q65:EQ (en65 p65) (sE 0 15 [] [] []) Tryz.f65 [(.tmp 6,4,false)]:=fun _ _ _=>by kernel_rfl
def F65:FT65:=p65
theorem ok65:OKP (en65 F65):=ST.ok0 q65 Ab Tryz.func65
abbrev FT34:=(R:Type)→Tq21→(Bool→Option R)→Option R
def en34 (F:FT34):Ent:=eV 34 [Kq21] [.bool] F
def p34 (F65:FT65):FT34:=fun R a0 k=>
F65 R a0.1 (1:Int) (1024:Int) fun y1=>
(match y1 with
|true=>F65 R a0.2.1 (0:Int) a0.1 fun y2=>
(match y2 with
|true=>let v3:=IntKind.i64.wrap (a0.1 - a0.2.1);F65 R a0.2.2.1 (0:Int) v3 fun y4=>
(match y4 with
|true=>F65 R a0.2.2.2.1 (1:Int) (64:Int) fun y5=>
(match y5 with
|true=>F65 R a0.2.2.2.2.1 (1:Int) (1048576:Int) fun y6=>
k y6
|false=>k false)
|false=>k false)
|false=>k false)
|false=>k false)
theorem q34 (F65:FT65):EQ (en34 (p34 F65)) (sE 0 33 [] [en65 F65] []) Tryz.f34 [(.tmp 2,4,false)]:=fun _ _ _=>by kernel_rfl
def F34:FT34:=p34 F65
theorem ok34:OKP (en34 F34):=ST.ok0 (q34 F65) (Aa ok65 Ab) Tryz.func34
abbrev FT35:=(R:Type)→LI→(Tq24→Option R)→Option R
def en35 (F:FT35):Ent:=eV 35 [(.arr 32 (.int .u8))] [Kq24] F
def p35:FT35:=fun R a0 k=>
k ((0:Int),a0,(List.replicate 32 (0:Int)),([]:(List Tq9)),())
theorem q35:EQ (en35 p35) (sE 0 5 [] [] []) Tryz.f35 [(.cell 2 34,34,false)]:=fun _ _ _=>by kernel_rfl
def F35:FT35:=p35
theorem ok35:OKP (en35 F35):=ST.ok0 q35 Ab Tryz.func35
abbrev zcm:=(R:Type)→Int→Int→(Int→Int→Option R)→Option R
def zui (F:zcm):Ent:=eV 105 [(.int .u64),(.int .u64)] [(.int .u64),(.int .u64)] F
def p105:zcm:=fun R a0 a1 k=>
let v1:=iand .u64 a0 (4294967295:Int);let v2:=ishr .u64 a0 (32:Int);let v3:=iand .u64 a1 (4294967295:Int);let v4:=ishr .u64 a1 (32:Int);let v5:=IntKind.u64.wrap (v1*v3);let v6:=IntKind.u64.wrap (v2*v3);let v7:=ishr .u64 v5 (32:Int);let v8:=IntKind.u64.wrap (v6+v7);let v9:=iand .u64 v8 (4294967295:Int);let v10:=ishr .u64 v8 (32:Int);let v11:=IntKind.u64.wrap (v1*v4);let v12:=IntKind.u64.wrap (v9+v11);let v13:=IntKind.u64.wrap (v2*v4);let v14:=IntKind.u64.wrap (v13+v10);let v15:=ishr .u64 v12 (32:Int);let v16:=IntKind.u64.wrap (v14+v15);let v17:=IntKind.u64.wrap (a0*a1);k v16 v17
theorem q105:EQ (zui p105) (sE 0 51 [] [] []) Tryz.f105 [(.tmp 4,31,false),(.tmp 5,31,false)]:=fun _ _ _=>by kernel_rfl
def F105:zcm:=p105
theorem ok105:OKP (zui F105):=ST.ok0 q105 Ab Tryz.func105
abbrev FT66:=(R:Type)→Int→Int→(Int→Int→Option R)→Option R
def en66 (F:FT66):Ent:=eV 66 [(.int .u64),(.int .u64)] [(.int .u64),(.int .u64)] F
def p66 (F105:zcm):FT66:=fun R a0 a1 k=>
F105 R a0 a1 fun y1 y2=>
k y1 y2
theorem q66 (F105:zcm):EQ (en66 (p66 F105)) (sE 0 30 [] [zui F105] []) Tryz.f66 [(.tmp 4,138,false),(.tmp 5,138,false)]:=fun _ _ _=>by kernel_rfl
def F66:FT66:=p66 F105
theorem ok66:OKP (en66 F66):=ST.ok0 (q66 F105) (Aa ok105 Ab) Tryz.func66
abbrev FT36:=(R:Type)→LI→Int→(LI→Option R)→Option R
def en36 (F:FT36):Ent:=eV 36 [(.sl (.int .i64)),(.int .i64)] [(.sl (.int .i64))] F
abbrev D36_8 (Z:Type):=Int→LI→Z
abbrev E36_8 (R:Type):=(LI→Option R)→Option R
abbrev R7:=(R:Type)→D36_8 (E36_8 R)
def zj3 (L:R7):LEnt:=lM 8 [.fix 7 (.own 0 0),.val 8 (.int .i64),.row 0 (.int .i64) false] 1 [(.exit 0,[.fix 7 (.own 0 0),.row 0 (.int .i64) false])] L
def e36 (F66:FT66) (L8:R7):=sE 0 48 [] [en66 F66] [zj3 L8]
def zy7 (R:Type):D36_8 (D36_8 (Option R)→E36_8 R):=fun x1 x2 kc k0=>
let v3:=(x2.length:Int);let v4:=decide (x1<v3);(match v4 with
|true=>(match (decide (0≤x1∧x1≤(x2.length:Int)∧(x2.length:Int)≤(x2.length:Int)∧(x2.length:Int)≤(x2.length:Int))) with
|true=>(match (decide (0≤(0:Int)∧(0:Int)≤x1∧x1≤x1∧x1≤(x2.length:Int))) with
|true=>let v5:=lay x2 x1.toNat (List.take (Int.toNat ((x2.length:Int) - x1)) (List.take (Int.toNat (x1 - 0)) (List.drop 0 x2)));let v6:=IntKind.i64.wrap (x1+((min (List.length (List.take (Int.toNat (x1 - 0)) (List.drop 0 x2))) (Int.toNat ((x2.length:Int) - x1)):Nat):Int));kc v6 v5
|false=>none)
|false=>none)
|false=>k0 x2)
theorem q36_8 (F66:FT66) (L8:R7):LEQ (zj3 L8) (e36 F66 L8) Tryz.f36 zy7:=fun _ _ _ _=>by kernel_rfl
def zba:Nat→R7
 | 0=>fun _ _ _ _=>none
 | n+1=>fun R x1 x2 k0=>zy7 R x1 x2 (fun x1 x2=>zba n R x1 x2 k0) k0
def p36 (F66:FT66) (L8:R7):FT36:=fun R a0 a1 k=>
let v1:=decide (a1<0);(match v1 with
|true=>none
|false=>let v2:=(a0.length:Int);let v3:=IntKind.u64.wrap v2;let v4:=IntKind.u64.wrap a1;F66 R v3 v4 fun y5 y6=>
let v7:=decide (y5>0);(match v7 with
|true=>none
|false=>let v8:=decide (y6>9223372036854775807);(match v8 with
|true=>none
|false=>let v9:=IntKind.i64.wrap y6;(match (decide (0≤v9∧v9≤v9∧v9≤17592186044416)) with
|true=>let v10:=List.replicate v9.toNat (0:Int);let v11:=lay v10 0 (List.take (v10.length) a0);L8 R ((min (a0.length) (v10.length):Nat):Int) v11 (fun x12=>
k x12)
|false=>none))))
theorem q36 (F66:FT66) (L8:R7):EQ (en36 (p36 F66 L8)) (e36 F66 L8) Tryz.f36 [(.tmp 4,35,false)]:=fun _ _ _=>by kernel_rfl
def F36:FT36:=p36 F66 (zba FUEL)
theorem lok36_8:LKP (zj3 (zba FUEL)) 0 48 8 Tryz.f36:=ST.lok (q36_8 F66 (zba FUEL)) (Aa ok66 Ab) [] trivial
theorem ok36:OKP (en36 F36):=ST.ok1 (q36 F66 (zba FUEL)) (Aa ok66 Ab) Tryz.func36 [8] ⟨⟨_,rfl,lok36_8⟩,trivial⟩
abbrev FT11:=(R:Type)→Tq21→LI→(Tq29→Int→Option R)→Option R
def en11 (F:FT11):Ent:=eV 11 [Kq21,(.arr 32 (.int .u8))] [Kq29,(.int .i64)] F
def p11 (F34:FT34) (F35:FT35) (F36:FT36):FT11:=fun R a0 a1 k=>
F34 R a0 fun y1=>
(match (!y1) with
|true=>k (((0:Int),(0:Int),(0:Int),(0:Int),(0:Int),()),(0:Int),([]:(List Tq11)),((0:Int),(List.replicate 32 (0:Int)),(List.replicate 32 (0:Int)),([]:(List Tq9)),()),([]:LI),([]:LI),()) (1:Int)
|false=>F35 R a1 fun y2=>
let v3:=([(-1:Int)]:LI);F36 R v3 a0.1 fun y4=>
k (a0,(0:Int),([]:(List Tq11)),y2,y4,([]:LI),()) (0:Int))
theorem q11 (F34:FT34) (F35:FT35) (F36:FT36):EQ (en11 (p11 F34 F35 F36)) (sE 0 18 [] [en34 F34,en35 F35,en36 F36] []) Tryz.f11 [(.cell 4 37,37,false),(.tmp 5,38,false)]:=fun _ _ _=>by kernel_rfl
def F11:FT11:=p11 F34 F35 F36
theorem ok11:OKP (en11 F11):=ST.ok0 (q11 F34 F35 F36) (Aa ok34 (Aa ok35 (Aa ok36 Ab))) Tryz.func11
abbrev FT13:=(R:Type)→LI→((List Tq6)→Option R)→Option R
def en13 (F:FT13):Ent:=eV 13 [(.sl (.int .u8))] [(.sl Kq6)] F
abbrev D13_1 (Z:Type):=LI→(List Tq6)→Z
abbrev E13_1 (R:Type):=((List Tq6)→Option R)→Option R
abbrev Sb:=(R:Type)→D13_1 (E13_1 R)
def zj8 (L:Sb):LEnt:=lM 1 [.val 0 (.sl (.int .u8)),.fix 2 (.own 0 0),.row 0 Kq6 false] 1 [(.exit 0,[.fix 2 (.own 0 0),.row 0 Kq6 false])] L
def e13 (F37:FT37) (L1:Sb):=sE 0 19 [(0,0)] [en37 F37] [zj8 L1]
def zrf (F37:FT37) (R:Type):D13_1 (D13_1 (Option R)→E13_1 R):=fun x1 x2 kc k0=>
let v3:=(x1.length:Int);let v4:=decide (v3>0);(match v4 with
|true=>F37 R x1 fun y5 y6=>
let v7:=([y5]:(List Tq6));(match (decide (x2.length+v7.length≤2199023255552)) with
|true=>let v8:=x2++v7;kc y6 v8
|false=>none)
|false=>k0 x2)
theorem q13_1 (F37:FT37) (L1:Sb):LEQ (zj8 L1) (e13 F37 L1) Tryz.f13 (zrf F37):=fun _ _ _ _=>by kernel_rfl
def Xm:Nat→Sb
 | 0=>fun _ _ _ _=>none
 | n+1=>fun R x1 x2 k0=>zrf F37 R x1 x2 (fun x1 x2=>Xm n R x1 x2 k0) k0
def p13 (L1:Sb):FT13:=fun R a0 k=>
L1 R a0 ([]:(List Tq6)) (fun x1=>
k x1)
theorem q13 (F37:FT37) (L1:Sb):EQ (en13 (p13 L1)) (e13 F37 L1) Tryz.f13 [(.tmp 2,42,false)]:=fun _ _ _=>by kernel_rfl
def F13:FT13:=p13 (Xm FUEL)
theorem lok13_1:LKP (zj8 (Xm FUEL)) 0 19 1 Tryz.f13:=ST.lok (q13_1 F37 (Xm FUEL)) (Aa ok37 Ab) [] trivial
theorem ok13:OKP (en13 F13):=ST.ok1 (q13 F37 (Xm FUEL)) (Aa ok37 Ab) Tryz.func13 [1] ⟨⟨_,rfl,lok13_1⟩,trivial⟩
abbrev zb8:=(R:Type)→Tq11→(Int→Option R)→Option R
def en172 (F:zb8):Ent:=eV 172 [Kq11] [(.int .u64)] F
def p172:zb8:=fun R a0 k=>
k a0.2.1
theorem q172:EQ (en172 p172) (sE 0 5 [] [] []) Tryz.f172 [(.tmp 2,31,false)]:=fun _ _ _=>by kernel_rfl
def F172:zb8:=p172
theorem ok172:OKP (en172 F172):=ST.ok0 q172 Ab Tryz.func172
abbrev Hm:Type 1:=(R:Type)→(List Tq11)→(LI→Option R)→Option R
def Gd (F:Hm):EntF:=⟨171,172,[(false,(.sl Kq11))],[(false,(.sl (.int .u64)))],fun R x k=>F R x.1 (fun y1=>k (y1,()) ())⟩
def Vh:List (ResultVar×TypeId×Bool):=[(.tmp 4,54,false)]
abbrev Fp:Type 1:=(R:Type)→(List Tq11)→Int→Int→LI→(LI→Option R)→Option R
def Bq (L:Fp):LEnt:=⟨3,[.fix 1 (.fn 172),.fix 5 (.own 0 0),.val 11 (.sl Kq11),.val 12 (.int .i64),.val 13 (.int .i64),.row 0 (.int .u64) false],1,[(.exit 0,[.fix 5 (.own 0 0),.row 0 (.int .u64) false])],fun R x ke=>L R x.1 x.2.1 x.2.2.1 x.2.2.2.1 (fun y1=>ke.1 (y1,()))⟩
def Po (F172:zb8) (L3:Fp) (R:Type):Env R:=⟨TT,EQT,0,25,Bm [],Bd [en172 F172] R,Bl [Bq L3] R,[],Bc [],[],fun _ _ _ _=>none⟩
def Kx (F172:zb8):(R:Type)→(List Tq11)→Int→Int→LI→((List Tq11)→Int→Int→LI→Option R)→(LI→Option R)→Option R:=fun R x1 x2 x3 x4 kc k0=>
let v5:=decide (x3<x2);(match v5 with
|true=>(match bnd x3 x1.length with
|true=>let v6:=x1.getD x3.toNat ((List.replicate 32 0),0,0,());F172 R v6 fun y7=>
let v8:=([y7]:LI);(match (decide (x4.length+v8.length≤17592186044416)) with
|true=>let v9:=x4++v8;let v10:=IntKind.i64.wrap (x3+1);kc x1 x2 v10 v9
|false=>none)
|false=>none)
|false=>k0 x4)
theorem zhw (F172:zb8) (L3:Fp) (R:Type) (x:HT (Bq L3).H) (kc:HT (Bq L3).H→Option R) (ke:KT R (Bq L3).exs):
 exec (Po F172 L3 R) (Cd 3 (Ag Tryz.f171)) (stOf (Bq L3).H x 1) (Ni (Bq L3).H (Bq L3).exs kc ke)=
  Kx F172 R x.1 x.2.1 x.2.2.1 x.2.2.2.1 (fun x1 x2 x3 x4=>kc (x1,x2,x3,x4,())) (fun y1=>ke.1 (y1,())):=by kernel_rfl
def Bh:Nat→Fp
 | 0=>fun _ _ _ _ _ _=>none
 | n+1=>fun R x1 x2 x3 x4 k0=>Kx F172 R x1 x2 x3 x4 (fun x1 x2 x3 x4=>Bh n R x1 x2 x3 x4 k0) k0
def Yz (L3:Fp):Hm:=fun R a0 k=>
let v1:=(a0.length:Int);(match (decide (0≤(0:Int)∧(0:Int)≤v1∧v1≤17592186044416)) with
|true=>let v2:=List.replicate 0 (0:Int);let v3:=(a0.length:Int);L3 R a0 v3 (0:Int) v2 (fun x4=>
k x4)
|false=>none)
theorem zyi (F172:zb8) (L3:Fp) (F:Hm) (R:Type) (x:AT (Gd F).ins) (k:RT (Gd F).outs→PT (Gd F).ins→Option R):
 xfun (Po F172 L3 R) (Ag Tryz.f171) Vh (avs (Gd F).ins x++[AV.fn 172]) (finK (Gd F).outs (Gd F).ins k)=Yz L3 R x.1 (fun y1=>k (y1,()) ()):=by kernel_rfl
def Ed:Hm:=Yz (Bh FUEL)
theorem Wh (R:Type):Az Tryz.prog (Po F172 (Bh FUEL) R):=⟨tabOK,eqOK,Aq (Aa ok172 Ab),Bw,Ak,noYl⟩
def Im:(R:Type)→HT (Bq (Bh FUEL)).H→(HT (Bq (Bh FUEL)).H→Option R)→KT R (Bq (Bh FUEL)).exs→Option R:=fun R x kc ke=>Kx F172 R x.1 x.2.1 x.2.2.1 x.2.2.2.1 (fun x1 x2 x3 x4=>kc (x1,x2,x3,x4,())) (fun y1=>ke.1 (y1,()))
theorem zfz:∀(n:Nat) (R:Type) (x:HT (Bq (Bh FUEL)).H) (ke:KT R (Bq (Bh FUEL)).exs),iter Im n R x ke=Bh n R x.1 x.2.1 x.2.2.1 x.2.2.2.1 (fun y1=>ke.1 (y1,())):=by
 intro n
 induction n with
 | zero=>intro R x ke; rfl
 | succ n ih=>
  intro R x ke;show Im R x (fun x'=>iter Im n R x' ke) ke=_
  rw [show (fun x'=>iter Im n R x' ke)=fun x=>Bh n R x.1 x.2.1 x.2.2.1 x.2.2.2.1 (fun y1=>ke.1 (y1,())) from funext fun x'=>ih R x' ke];rfl
theorem Zc:(Bq (Bh FUEL)).OK Tryz.prog 0 25 (Cd 3 (Ag Tryz.f171)):=⟨⟨fun _ h=>(by cases h),by kernel_rfl⟩,fun R x ke r h=>
 D9 (fun R=>Po F172 (Bh FUEL) R) 0 25 (fun _=>rfl) (fun _=>rfl) (fun R=>Wh R) mixed (by
  intro R;rw [show Am (Cd 3 (Ag Tryz.f171))=[] from by kernel_rfl];exact Bx) (fun _ h=>(by cases h)) (K0 (by kernel_rfl)) (T:=Im) (fun R x kc ke=>zhw F172 (Bh FUEL) R x kc ke) FUEL R x ke r ((zfz FUEL R x ke).trans h)⟩
theorem zrn:(Gd Ed).OK Tryz.prog:=
 Jy (Ef:=fun R=>Po F172 (Bh FUEL) R) (fun R=>Wh R) mixed Tryz.func171 (body:=Ag Tryz.f171) (by kernel_rfl) (by kernel_rfl) (np:=0) (nt:=25) (fun _=>rfl) (fun _=>rfl) (by kernel_rfl) (res:=Vh) (by kernel_rfl) (fun _=>rfl) (fun _=>Nat.le_of_ble_eq_true rfl) (by
  intro R;rw [show Am (Ag Tryz.f171)=[Cd 3 (Ag Tryz.f171)] from by kernel_rfl];exact (Ah (Hb (e:=Bq (Bh FUEL)) rfl rfl Zc) Bx)) (fun R x k=>zyi F172 (Bh FUEL) Ed R x k)
abbrev Ln:=(R:Type)→(List Tq11)→(LI→Option R)→Option R
def zao (F:Ln):Ent:=eV 123 [(.sl Kq11)] [(.sl (.int .u64))] F
def e123 (Ed:Hm) (R:Type):Env R:=⟨TT,EQT,0,5,Bm [],E6 [Gd Ed] [] R,Bl [] R,[],Bc [],[],fun _ _ _ _=>none⟩
def p123 (Ed:Hm):Ln:=fun R a0 k=>
Ed R a0 fun y1=>
k y1
theorem q123 (Ed:Hm):EQ (zao (p123 Ed)) (e123 Ed) Tryz.f123 [(.tmp 2,54,false)]:=fun _ _ _=>by kernel_rfl
def F123:Ln:=p123 Ed
theorem env123 (R:Type):Az Tryz.prog (e123 Ed R):=⟨tabOK,eqOK,C0 (F4 zrn Fc) Ab,Bw,Ak,noYl⟩
theorem zi5:OKP (zao F123):=ST.ok3 (q123 Ed) env123 Tryz.func123 (fun _=>rfl) (fun _=>rfl) (fun _=>rfl) [] trivial
abbrev zu1:Type 1:=(R:Type)→Int→Int→Int→(Int→Int→Option R)→Option R
def en197 (F:zu1):Ent:=⟨197,[(false,(.int .u64)),(false,(.int .u64)),(false,(.int .u64))],[(false,(.int .u64)),(false,(.int .u64))],fun R x k=>F R x.1 x.2.1 x.2.2.1 (fun y1 y2=>k (y1,y2,()) ())⟩
def F197:zu1:=fun R a0 a1 a2 k=>match decide (0≤a0∧0≤a1∧0≤a2∧a2≤1) with | true=>k ((a0+a1+a2) % 18446744073709551616) ((a0+a1+a2)/18446744073709551616) | false=>none
theorem ok197:(en197 F197).OK Tryz.prog:=zut Tryz.func197 (by kernel_rfl) (by kernel_rfl) (by kernel_rfl) (by kernel_rfl)
abbrev zna:=(R:Type)→Int→(Bool→Option R)→Option R
def en226 (F:zna):Ent:=eV 226 [(.int .u64)] [.bool] F
def p226:zna:=fun R a0 k=>
let v1:=decide (a0<9223372036854775808);k v1
theorem q226:EQ (en226 p226) (sE 0 5 [] [] []) Tryz.f226 [(.tmp 2,4,false)]:=fun _ _ _=>by kernel_rfl
def F226:zna:=p226
theorem ok226:OKP (en226 F226):=ST.ok0 q226 Ab Tryz.func226
abbrev zb1:=(R:Type)→Int→Int→(Int→Bool→Option R)→Option R
def zt0 (F:zb1):Ent:=eV 196 [(.int .u64),(.int .u64)] [(.int .u64),.bool] F
def p196 (F226:zna):zb1:=fun R a0 a1 k=>
let v1:=a1 !=0;(match v1 with
|true=>k (0:Int) false
|false=>F226 R a0 fun y2=>
(match (!y2) with
|true=>k (0:Int) false
|false=>k a0 true))
theorem q196 (F226:zna):EQ (zt0 (p196 F226)) (sE 0 14 [] [en226 F226] []) Tryz.f196 [(.tmp 4,31,false),(.tmp 5,4,false)]:=fun _ _ _=>by kernel_rfl
def F196:zb1:=p196 F226
theorem ok196:OKP (zt0 F196):=ST.ok0 (q196 F226) (Aa ok226 Ab) Tryz.func196
abbrev Ll:=(R:Type)→Int→Int→(Int→Bool→Option R)→Option R
def zk8 (F:Ll):Ent:=eV 155 [(.int .u64),(.int .u64)] [(.int .u64),.bool] F
def p155 (F196:zb1) (F197:zu1):Ll:=fun R a0 a1 k=>
F197 R a0 a1 (0:Int) fun y1 y2=>
F196 R y1 y2 fun y3 y4=>
k y3 y4
theorem q155 (F196:zb1) (F197:zu1):EQ (zk8 (p155 F196 F197)) (sE 0 14 [] [zt0 F196,en197 F197] []) Tryz.f155 [(.tmp 4,31,false),(.tmp 5,4,false)]:=fun _ _ _=>by kernel_rfl
def F155:Ll:=p155 F196 F197
theorem zi3:OKP (zk8 F155):=ST.ok0 (q155 F196 F197) (Aa ok196 (Aa ok197 Ab)) Tryz.func155
abbrev Kh:=(R:Type)→LI→(Int→Bool→Option R)→Option R
def zf9 (F:Kh):Ent:=eV 136 [(.sl (.int .u64))] [(.int .u64),.bool] F
abbrev zp5 (Z:Type):=Int→LI→Int→Int→Z
abbrev zxo (R:Type):=(Int→Bool→Option R)→(Int→Option R)→Option R
abbrev M6:=(R:Type)→zp5 (zxo R)
def Z6 (L:M6):LEnt:=lM 2 [.val 2 (.int .u64),.val 6 (.sl (.int .u64)),.val 7 (.int .i64),.val 8 (.int .i64)] 0 [(.ret,[.val 2 (.int .u64),.val 3 .bool]),(.exit 0,[.val 2 (.int .u64)])] L
def e136 (F155:Ll) (L2:M6):=sE 0 22 [] [zk8 F155] [Z6 L2]
def zit (F155:Ll) (R:Type):zp5 (zp5 (Option R)→zxo R):=fun x1 x2 x3 x4 kc k0 k1=>
let v5:=decide (x4<x3);(match v5 with
|true=>(match bnd x4 x2.length with
|true=>let v6:=x2.getD x4.toNat 0;F155 R x1 v6 fun y7 y8=>
(match (!y8) with
|true=>k0 (0:Int) false
|false=>let v9:=IntKind.i64.wrap (x4+1);kc y7 x2 x3 v9)
|false=>none)
|false=>k1 x1)
theorem q136_2 (F155:Ll) (L2:M6):LEQ (Z6 L2) (e136 F155 L2) Tryz.f136 (zit F155):=fun _ _ _ _=>by kernel_rfl
def Qr:Nat→M6
 | 0=>fun _ _ _ _ _ _ _=>none
 | n+1=>fun R x1 x2 x3 x4 k0 k1=>zit F155 R x1 x2 x3 x4 (fun x1 x2 x3 x4=>Qr n R x1 x2 x3 x4 k0 k1) k0 k1
def p136 (L2:M6):Kh:=fun R a0 k=>
let v1:=(a0.length:Int);L2 R (0:Int) a0 v1 (0:Int) (fun x2 x3=>
k x2 x3) (fun x4=>
k x4 true)
theorem q136 (F155:Ll) (L2:M6):EQ (zf9 (p136 L2)) (e136 F155 L2) Tryz.f136 [(.tmp 2,31,false),(.tmp 3,4,false)]:=fun _ _ _=>by kernel_rfl
def F136:Kh:=p136 (Qr FUEL)
theorem zsq:LKP (Z6 (Qr FUEL)) 0 22 2 Tryz.f136:=ST.lok (q136_2 F155 (Qr FUEL)) (Aa zi3 Ab) [] trivial
theorem zi4:OKP (zf9 F136):=ST.ok1 (q136 F155 (Qr FUEL)) (Aa zi3 Ab) Tryz.func136 [2] ⟨⟨_,rfl,zsq⟩,trivial⟩
abbrev zb2:=(R:Type)→Tq11→(Int→Option R)→Option R
def en195 (F:zb2):Ent:=eV 195 [Kq11] [(.int .u64)] F
def p195:zb2:=fun R a0 k=>
k a0.2.2.1
theorem q195:EQ (en195 p195) (sE 0 5 [] [] []) Tryz.f195 [(.tmp 2,31,false)]:=fun _ _ _=>by kernel_rfl
def F195:zb2:=p195
theorem ok195:OKP (en195 F195):=ST.ok0 q195 Ab Tryz.func195
abbrev Hl:Type 1:=(R:Type)→(List Tq11)→(LI→Option R)→Option R
def Gb (F:Hl):EntF:=⟨171,195,[(false,(.sl Kq11))],[(false,(.sl (.int .u64)))],fun R x k=>F R x.1 (fun y1=>k (y1,()) ())⟩
def Vg:List (ResultVar×TypeId×Bool):=[(.tmp 4,54,false)]
abbrev Fo:Type 1:=(R:Type)→(List Tq11)→Int→Int→LI→(LI→Option R)→Option R
def Bp (L:Fo):LEnt:=⟨3,[.fix 1 (.fn 195),.fix 5 (.own 0 0),.val 11 (.sl Kq11),.val 12 (.int .i64),.val 13 (.int .i64),.row 0 (.int .u64) false],1,[(.exit 0,[.fix 5 (.own 0 0),.row 0 (.int .u64) false])],fun R x ke=>L R x.1 x.2.1 x.2.2.1 x.2.2.2.1 (fun y1=>ke.1 (y1,()))⟩
def Pn (F195:zb2) (L3:Fo) (R:Type):Env R:=⟨TT,EQT,0,25,Bm [],Bd [en195 F195] R,Bl [Bp L3] R,[],Bc [],[],fun _ _ _ _=>none⟩
def Kw (F195:zb2):(R:Type)→(List Tq11)→Int→Int→LI→((List Tq11)→Int→Int→LI→Option R)→(LI→Option R)→Option R:=fun R x1 x2 x3 x4 kc k0=>
let v5:=decide (x3<x2);(match v5 with
|true=>(match bnd x3 x1.length with
|true=>let v6:=x1.getD x3.toNat ((List.replicate 32 0),0,0,());F195 R v6 fun y7=>
let v8:=([y7]:LI);(match (decide (x4.length+v8.length≤17592186044416)) with
|true=>let v9:=x4++v8;let v10:=IntKind.i64.wrap (x3+1);kc x1 x2 v10 v9
|false=>none)
|false=>none)
|false=>k0 x4)
theorem zhv (F195:zb2) (L3:Fo) (R:Type) (x:HT (Bp L3).H) (kc:HT (Bp L3).H→Option R) (ke:KT R (Bp L3).exs):
 exec (Pn F195 L3 R) (Cd 3 (Ag Tryz.f171)) (stOf (Bp L3).H x 1) (Ni (Bp L3).H (Bp L3).exs kc ke)=
  Kw F195 R x.1 x.2.1 x.2.2.1 x.2.2.2.1 (fun x1 x2 x3 x4=>kc (x1,x2,x3,x4,())) (fun y1=>ke.1 (y1,())):=by kernel_rfl
def Bg:Nat→Fo
 | 0=>fun _ _ _ _ _ _=>none
 | n+1=>fun R x1 x2 x3 x4 k0=>Kw F195 R x1 x2 x3 x4 (fun x1 x2 x3 x4=>Bg n R x1 x2 x3 x4 k0) k0
def Yy (L3:Fo):Hl:=fun R a0 k=>
let v1:=(a0.length:Int);(match (decide (0≤(0:Int)∧(0:Int)≤v1∧v1≤17592186044416)) with
|true=>let v2:=List.replicate 0 (0:Int);let v3:=(a0.length:Int);L3 R a0 v3 (0:Int) v2 (fun x4=>
k x4)
|false=>none)
theorem zyh (F195:zb2) (L3:Fo) (F:Hl) (R:Type) (x:AT (Gb F).ins) (k:RT (Gb F).outs→PT (Gb F).ins→Option R):
 xfun (Pn F195 L3 R) (Ag Tryz.f171) Vg (avs (Gb F).ins x++[AV.fn 195]) (finK (Gb F).outs (Gb F).ins k)=Yy L3 R x.1 (fun y1=>k (y1,()) ()):=by kernel_rfl
def Ec:Hl:=Yy (Bg FUEL)
theorem Wg (R:Type):Az Tryz.prog (Pn F195 (Bg FUEL) R):=⟨tabOK,eqOK,Aq (Aa ok195 Ab),Bw,Ak,noYl⟩
def Il:(R:Type)→HT (Bp (Bg FUEL)).H→(HT (Bp (Bg FUEL)).H→Option R)→KT R (Bp (Bg FUEL)).exs→Option R:=fun R x kc ke=>Kw F195 R x.1 x.2.1 x.2.2.1 x.2.2.2.1 (fun x1 x2 x3 x4=>kc (x1,x2,x3,x4,())) (fun y1=>ke.1 (y1,()))
theorem zfy:∀(n:Nat) (R:Type) (x:HT (Bp (Bg FUEL)).H) (ke:KT R (Bp (Bg FUEL)).exs),iter Il n R x ke=Bg n R x.1 x.2.1 x.2.2.1 x.2.2.2.1 (fun y1=>ke.1 (y1,())):=by
 intro n
 induction n with
 | zero=>intro R x ke; rfl
 | succ n ih=>
  intro R x ke;show Il R x (fun x'=>iter Il n R x' ke) ke=_
  rw [show (fun x'=>iter Il n R x' ke)=fun x=>Bg n R x.1 x.2.1 x.2.2.1 x.2.2.2.1 (fun y1=>ke.1 (y1,())) from funext fun x'=>ih R x' ke];rfl
theorem Zb:(Bp (Bg FUEL)).OK Tryz.prog 0 25 (Cd 3 (Ag Tryz.f171)):=⟨⟨fun _ h=>(by cases h),by kernel_rfl⟩,fun R x ke r h=>
 D9 (fun R=>Pn F195 (Bg FUEL) R) 0 25 (fun _=>rfl) (fun _=>rfl) (fun R=>Wg R) mixed (by
  intro R;rw [show Am (Cd 3 (Ag Tryz.f171))=[] from by kernel_rfl];exact Bx) (fun _ h=>(by cases h)) (K0 (by kernel_rfl)) (T:=Il) (fun R x kc ke=>zhv F195 (Bg FUEL) R x kc ke) FUEL R x ke r ((zfy FUEL R x ke).trans h)⟩
theorem zrm:(Gb Ec).OK Tryz.prog:=
 Jy (Ef:=fun R=>Pn F195 (Bg FUEL) R) (fun R=>Wg R) mixed Tryz.func171 (body:=Ag Tryz.f171) (by kernel_rfl) (by kernel_rfl) (np:=0) (nt:=25) (fun _=>rfl) (fun _=>rfl) (by kernel_rfl) (res:=Vg) (by kernel_rfl) (fun _=>rfl) (fun _=>Nat.le_of_ble_eq_true rfl) (by
  intro R;rw [show Am (Ag Tryz.f171)=[Cd 3 (Ag Tryz.f171)] from by kernel_rfl];exact (Ah (Hb (e:=Bp (Bg FUEL)) rfl rfl Zb) Bx)) (fun R x k=>zyh F195 (Bg FUEL) Ec R x k)
abbrev Ub:=(R:Type)→(List Tq11)→(LI→Option R)→Option R
def zt9 (F:Ub):Ent:=eV 154 [(.sl Kq11)] [(.sl (.int .u64))] F
def e154 (Ec:Hl) (R:Type):Env R:=⟨TT,EQT,0,5,Bm [],E6 [Gb Ec] [] R,Bl [] R,[],Bc [],[],fun _ _ _ _=>none⟩
def p154 (Ec:Hl):Ub:=fun R a0 k=>
Ec R a0 fun y1=>
k y1
theorem q154 (Ec:Hl):EQ (zt9 (p154 Ec)) (e154 Ec) Tryz.f154 [(.tmp 2,54,false)]:=fun _ _ _=>by kernel_rfl
def F154:Ub:=p154 Ec
theorem env154 (R:Type):Az Tryz.prog (e154 Ec R):=⟨tabOK,eqOK,C0 (F4 zrm Fc) Ab,Bw,Ak,noYl⟩
theorem ok154:OKP (zt9 F154):=ST.ok3 (q154 Ec) env154 Tryz.func154 (fun _=>rfl) (fun _=>rfl) (fun _=>rfl) [] trivial
abbrev Q6:Type 1:=(R:Type)→(List Tq11)→((List Tq12)→Option R)→Option R
def Tp (F:Q6):EntR:=⟨153,(.arr 32 (.int .u8)),(.int .i64),[(false,(.sl Kq11))],fun R x k=>F R x.1 k⟩
abbrev M2:Type 1:=(R:Type)→(List Tq11)→Int→Int→(List Tq12)→((List Tq12)→Option R)→Option R
def Dt (L:M2):LEnt:=⟨3,[.fix 3 (.mp 0),.val 11 (.sl Kq11),.val 12 (.int .i64),.val 13 (.int .i64),.map 0 (.arr 32 (.int .u8)) (.int .i64)],1,[(.exit 0,[.fix 3 (.mp 0),.map 0 (.arr 32 (.int .u8)) (.int .i64)])],fun R x ke=>L R x.1 x.2.1 x.2.2.1 x.2.2.2.1 (fun y1=>ke.1 (y1,()))⟩
def e153 (L3:M2) (R:Type):Env R:=⟨TT,EQT,0,33,Bm [],Bd [] R,Bl [Dt L3] R,[],Bc [],[],fun _ _ _ _=>none⟩
def zdm:(R:Type)→(List Tq11)→Int→Int→(List Tq12)→((List Tq11)→Int→Int→(List Tq12)→Option R)→((List Tq12)→Option R)→Option R:=fun R x1 x2 x3 x4 kc k0=>
let v5:=decide (x3<x2);(match v5 with
|true=>(match bnd x3 x1.length with
|true=>let v6:=x1.getD x3.toNat ((List.replicate 32 0),0,0,());let v7:=Option.getD (B2 (Kd.eqv (.arr 32 (.int .u8))) x4 v6.1) (0:Int);let v8:=Option.isSome (B2 (Kd.eqv (.arr 32 (.int .u8))) x4 v6.1);(match (!v8) with
|true=>(match (Option.isNone (B2 (Kd.eqv (.arr 32 (.int .u8))) x4 v6.1)) with
|true=>let v9:=x4++[(v6.1,x3)];let v10:=IntKind.i64.wrap (x3+1);kc x1 x2 v10 v9
|false=>none)
|false=>let v11:=IntKind.i64.wrap (x3+1);kc x1 x2 v11 x4)
|false=>none)
|false=>k0 x4)
theorem q153_3 (L3:M2) (R:Type) (x:HT (Dt L3).H) (kc:HT (Dt L3).H→Option R) (ke:KT R (Dt L3).exs):
 exec (e153 L3 R) (Cd 3 (Ag Tryz.f153)) (stOf (Dt L3).H x 1) (Ni (Dt L3).H (Dt L3).exs kc ke)=
  zdm R x.1 x.2.1 x.2.2.1 x.2.2.2.1 (fun x1 x2 x3 x4=>kc (x1,x2,x3,x4,())) (fun y1=>ke.1 (y1,())):=by kernel_rfl
def Dx:Nat→M2
 | 0=>fun _ _ _ _ _ _=>none
 | n+1=>fun R x1 x2 x3 x4 k0=>zdm R x1 x2 x3 x4 (fun x1 x2 x3 x4=>Dx n R x1 x2 x3 x4 k0) k0
def p153 (L3:M2):Q6:=fun R a0 k=>
let v1:=(a0.length:Int);let v2:=(a0.length:Int);L3 R a0 v2 (0:Int) ([]:List (LI×Int)) (fun x3=>
k x3)
theorem q153 (L3:M2) (F:Q6) (R:Type) (x:AT (Tp F).ins) (k:List ((Tp F).kk.T×(Tp F).kv.T)→Option R):
 zqk (e153 L3 R) (Ag Tryz.f153) 2 (Tp F).kk (Tp F).kv (avs (Tp F).ins x) k=p153 L3 R x.1 k:=by kernel_rfl
def F153:Q6:=p153 (Dx FUEL)
theorem zvm (R:Type):Az Tryz.prog (e153 (Dx FUEL) R):=⟨tabOK,eqOK,Aq Ab,Bw,Ak,noYl⟩
def W7:(R:Type)→HT (Dt (Dx FUEL)).H→(HT (Dt (Dx FUEL)).H→Option R)→KT R (Dt (Dx FUEL)).exs→Option R:=fun R x kc ke=>zdm R x.1 x.2.1 x.2.2.1 x.2.2.2.1 (fun x1 x2 x3 x4=>kc (x1,x2,x3,x4,())) (fun y1=>ke.1 (y1,()))
theorem it153_3:∀(n:Nat) (R:Type) (x:HT (Dt (Dx FUEL)).H) (ke:KT R (Dt (Dx FUEL)).exs),iter W7 n R x ke=Dx n R x.1 x.2.1 x.2.2.1 x.2.2.2.1 (fun y1=>ke.1 (y1,())):=by
 intro n
 induction n with
 | zero=>intro R x ke; rfl
 | succ n ih=>
  intro R x ke;show W7 R x (fun x'=>iter W7 n R x' ke) ke=_
  rw [show (fun x'=>iter W7 n R x' ke)=fun x=>Dx n R x.1 x.2.1 x.2.2.1 x.2.2.2.1 (fun y1=>ke.1 (y1,())) from funext fun x'=>ih R x' ke];rfl
theorem zsm:(Dt (Dx FUEL)).OK Tryz.prog 0 33 (Cd 3 (Ag Tryz.f153)):=⟨⟨fun _ h=>(by cases h),by kernel_rfl⟩,fun R x ke r h=>
 D9 (fun R=>e153 (Dx FUEL) R) 0 33 (fun _=>rfl) (fun _=>rfl) (fun R=>zvm R) mixed (by
  intro R;rw [show Am (Cd 3 (Ag Tryz.f153))=[] from by kernel_rfl];exact Bx) (fun _ h=>(by cases h)) (K0 (by kernel_rfl)) (T:=W7) (fun R x kc ke=>q153_3 (Dx FUEL) R x kc ke) FUEL R x ke r ((it153_3 FUEL R x ke).trans h)⟩
theorem ok153:(Tp F153).OK Tryz.prog:=
 ent_okR (Ef:=fun R=>e153 (Dx FUEL) R) (fun R=>zvm R) mixed Tryz.func153 (body:=Ag Tryz.f153) (by kernel_rfl) (by kernel_rfl) (nt:=33) (fun _=>rfl) (fun _=>rfl) (by kernel_rfl) (t:=2) (by kernel_rfl) (fun _=>Nat.le_of_ble_eq_true rfl) (by
  intro R;rw [show Am (Ag Tryz.f153)=[Cd 3 (Ag Tryz.f153)] from by kernel_rfl];exact (Ah (Hb (e:=Dt (Dx FUEL)) rfl rfl zsm) Bx)) (fun R x k=>q153 (Dx FUEL) F153 R x k)
abbrev X4:=(R:Type)→(List Tq11)→(Bool→Option R)→Option R
def zua (F:X4):Ent:=eV 152 [(.sl Kq11)] [.bool] F
def e152 (F123:Ln) (F136:Kh) (F153:Q6) (F154:Ub) (R:Type):Env R:=⟨TT,EQT,0,36,Bm [(3,11)],Bd [zao F123,zf9 F136,zt9 F154] R,Bl [] R,[],Bc [(153,inlR 0 (Tp F153) R)],[],fun _ _ _ _=>none⟩
def p152 (F123:Ln) (F136:Kh) (F153:Q6) (F154:Ub):X4:=fun R a0 k=>
F123 R a0 fun y1=>
F136 R y1 fun y2 y3=>
F154 R a0 fun y4=>
F136 R y4 fun y5 y6=>
(match y3 with
|true=>(match y6 with
|true=>let v7:=(a0.length:Int);let v8:=decide (v7≤1048576);(match v8 with
|true=>F153 R a0 fun m9=>
let v10:=(m9.length:Int);let v11:=(a0.length:Int);let v12:=v10==v11;k v12
|false=>k false)
|false=>k false)
|false=>k false)
theorem q152 (F123:Ln) (F136:Kh) (F153:Q6) (F154:Ub):EQ (zua (p152 F123 F136 F153 F154)) (e152 F123 F136 F153 F154) Tryz.f152 [(.tmp 2,4,false)]:=fun _ _ _=>by kernel_rfl
def F152:X4:=p152 F123 F136 F153 F154
theorem env152 (R:Type):Az Tryz.prog (e152 F123 F136 F153 F154 R):=⟨tabOK,eqOK,Aq (Aa zi5 (Aa zi4 (Aa ok154 Ab))),Bw,(Ph ok153 Ak),noYl⟩
theorem ok152:OKP (zua F152):=ST.ok3 (q152 F123 F136 F153 F154) env152 Tryz.func152 (fun _=>rfl) (fun _=>rfl) (fun _=>rfl) [] trivial
def e156:Env (List (Kd.T Kq11)):=⟨TT,EQT,0,9,Bm [(1,5)],fun _ _ _=>none,fun _ _ _=>none,[],Bc [],[],fun _ _ _ _=>none⟩
theorem ok156:T5 Tryz.prog 156 Kq11 0:=
 clip_ok (e:=Kq11) (E:=e156) ⟨tabOK,eqOK,(fun f b K r h=>by cases h),Bw,Ak,noYl⟩ mixed Tryz.func156 (body:=Ag Tryz.f156) (by kernel_rfl) (by kernel_rfl) rfl (by kernel_rfl) (t:=2) (by kernel_rfl) (by decide) (by kernel_rfl) (fun l=>by kernel_rfl)
abbrev Xz:Type 1:=(R:Type)→(List Tq11)→((List Tq11)→Option R)→Option R
def en198 (F:Xz):Ent:=⟨198,[(false,(.sl Kq11))],[(true,Kq11)],fun R x k=>F R x.1 (fun y1=>k (y1,()) ())⟩
def e198:Env (RT [(true,Kq11)]):=⟨TT,EQT,0,8,Bm [(2,0),(3,0)],fun _ _ _=>none,fun _ _ _=>none,[],Bc [],[],fun _ _ _ _=>none⟩
def F198:Xz:=fun R a0 k=>match decide (List.length ([]:(List Tq11))+a0.length≤2932031007402) with | true=>k a0 | false=>none
theorem zzl:(en198 F198).OK Tryz.prog:=
 I6 (e:=Kq11) e198 ⟨tabOK,eqOK,(fun f b K r h=>by cases h),Bw,Ak,noYl⟩ mixed Tryz.func198 (body:=Ag Tryz.f198) (by kernel_rfl) (by kernel_rfl) (by kernel_rfl) (res:=[(.tmp 2,30,true)]) (by kernel_rfl) rfl (by decide) (by kernel_rfl) (lim:=2932031007402) (by kernel_rfl) (fun l=>by kernel_rfl)
abbrev Q5:=(R:Type)→(List Tq11)→Int→Int→((List Tq11)→Option R)→Option R
def zk7 (F:Q5):Ent:=eV 157 [(.sl Kq11),(.int .i64),(.int .u64)] [(.sl Kq11)] F
def p157 (F198:Xz):Q5:=fun R a0 a1 a2 k=>
F198 R a0 fun y1=>
(match bnd a1 y1.length with
|true=>let v2:=y1.set a1.toNat ((y1.getD a1.toNat ((List.replicate 32 0),0,0,())).1,(y1.getD a1.toNat ((List.replicate 32 0),0,0,())).2.1,a2,(y1.getD a1.toNat ((List.replicate 32 0),0,0,())).2.2.2);k v2
|false=>none)
theorem q157 (F198:Xz):EQ (zk7 (p157 F198)) (sE 0 15 [] [en198 F198] []) Tryz.f157 [(.tmp 6,30,false)]:=fun _ _ _=>by kernel_rfl
def F157:Q5:=p157 F198
theorem zzq:OKP (zk7 F157):=ST.ok0 (q157 F198) (Aa zzl Ab) Tryz.func157
abbrev zn2:=(R:Type)→(List Tq11)→LI→Int→Int→((List Tq11)→Int→Int→Option R)→Option R
def en110 (F:zn2):Ent:=eV 110 [(.sl Kq11),(.arr 32 (.int .u8)),(.int .u64),(.int .i64)] [(.sl Kq11),(.int .i64),(.int .i64)] F
def e110 (F136:Kh) (F152:X4) (F153:Q6) (F154:Ub) (F155:Ll) (F157:Q5) (R:Type):Env R:=⟨TT,EQT,0,83,Bm [(3,1),(13,1)],Bd [zf9 F136,zua F152,zt9 F154,zk8 F155,zk7 F157] R,Bl [] R,[(156,Kq11,0)],Bc [(153,inlR 0 (Tp F153) R)],[],fun _ _ _ _=>none⟩
def p110 (F136:Kh) (F152:X4) (F153:Q6) (F154:Ub) (F155:Ll) (F157:Q5):zn2:=fun R a0 a1 a2 a3 k=>
F152 R a0 fun y1=>
(match (!y1) with
|true=>k ([]:(List Tq11)) (0:Int) (1:Int)
|false=>let v2:=a2==0;(match v2 with
|true=>k ([]:(List Tq11)) (0:Int) (1:Int)
|false=>let v3:=decide (a3<1);(match v3 with
|true=>k ([]:(List Tq11)) (0:Int) (1:Int)
|false=>let v4:=decide (a3>1048576);(match v4 with
|true=>k ([]:(List Tq11)) (0:Int) (1:Int)
|false=>F153 R a0 fun m5=>
let v6:=Option.getD (B2 (Kd.eqv (.arr 32 (.int .u8))) m5 a1) (0:Int);let v7:=Option.isSome (B2 (Kd.eqv (.arr 32 (.int .u8))) m5 a1);(match (!v7) with
|true=>let v8:=(a0.length:Int);let v9:=decide (v8≥a3);(match v9 with
|true=>(match (!v7) with
|true=>k ([]:(List Tq11)) (0:Int) (4:Int)
|false=>F154 R a0 fun y10=>
F136 R y10 fun y11 y12=>
F155 R y11 a2 fun y13 y14=>
(match (!y14) with
|true=>k ([]:(List Tq11)) (0:Int) (11:Int)
|false=>(match (!v7) with
|true=>let v15:=([(a1,(0:Int),(0:Int),())]:(List Tq11));(match (decide (0<v15.length∧a0.length+v15.length≤2932031007402)) with
|true=>let v16:=a0++v15;(match bnd v8 v16.length with
|true=>let v17:=(v16.getD v8.toNat ((List.replicate 32 0),0,0,())).2.2.1;let v18:=IntKind.u64.wrap (v17+a2);F157 R v16 v8 v18 fun y19=>
k y19 v8 (0:Int)
|false=>none)
|false=>none)
|false=>(match bnd v8 a0.length with
|true=>let v20:=(a0.getD v8.toNat ((List.replicate 32 0),0,0,())).2.2.1;let v21:=IntKind.u64.wrap (v20+a2);F157 R a0 v8 v21 fun y22=>
k y22 v8 (0:Int)
|false=>none))))
|false=>F154 R a0 fun y23=>
F136 R y23 fun y24 y25=>
F155 R y24 a2 fun y26 y27=>
(match (!y27) with
|true=>k ([]:(List Tq11)) (0:Int) (11:Int)
|false=>(match (!v7) with
|true=>let v28:=([(a1,(0:Int),(0:Int),())]:(List Tq11));(match (decide (0<v28.length∧a0.length+v28.length≤2932031007402)) with
|true=>let v29:=a0++v28;(match bnd v8 v29.length with
|true=>let v30:=(v29.getD v8.toNat ((List.replicate 32 0),0,0,())).2.2.1;let v31:=IntKind.u64.wrap (v30+a2);F157 R v29 v8 v31 fun y32=>
k y32 v8 (0:Int)
|false=>none)
|false=>none)
|false=>(match bnd v8 a0.length with
|true=>let v33:=(a0.getD v8.toNat ((List.replicate 32 0),0,0,())).2.2.1;let v34:=IntKind.u64.wrap (v33+a2);F157 R a0 v8 v34 fun y35=>
k y35 v8 (0:Int)
|false=>none))))
|false=>let v36:=decide (v6≥a3);(match v36 with
|true=>(match (!v7) with
|true=>k ([]:(List Tq11)) (0:Int) (4:Int)
|false=>F154 R a0 fun y37=>
F136 R y37 fun y38 y39=>
F155 R y38 a2 fun y40 y41=>
(match (!y41) with
|true=>k ([]:(List Tq11)) (0:Int) (11:Int)
|false=>(match (!v7) with
|true=>let v42:=([(a1,(0:Int),(0:Int),())]:(List Tq11));(match (decide (0<v42.length∧a0.length+v42.length≤2932031007402)) with
|true=>let v43:=a0++v42;(match bnd v6 v43.length with
|true=>let v44:=(v43.getD v6.toNat ((List.replicate 32 0),0,0,())).2.2.1;let v45:=IntKind.u64.wrap (v44+a2);F157 R v43 v6 v45 fun y46=>
k y46 v6 (0:Int)
|false=>none)
|false=>none)
|false=>(match bnd v6 a0.length with
|true=>let v47:=(a0.getD v6.toNat ((List.replicate 32 0),0,0,())).2.2.1;let v48:=IntKind.u64.wrap (v47+a2);F157 R a0 v6 v48 fun y49=>
k y49 v6 (0:Int)
|false=>none))))
|false=>F154 R a0 fun y50=>
F136 R y50 fun y51 y52=>
F155 R y51 a2 fun y53 y54=>
(match (!y54) with
|true=>k ([]:(List Tq11)) (0:Int) (11:Int)
|false=>(match (!v7) with
|true=>let v55:=([(a1,(0:Int),(0:Int),())]:(List Tq11));(match (decide (0<v55.length∧a0.length+v55.length≤2932031007402)) with
|true=>let v56:=a0++v55;(match bnd v6 v56.length with
|true=>let v57:=(v56.getD v6.toNat ((List.replicate 32 0),0,0,())).2.2.1;let v58:=IntKind.u64.wrap (v57+a2);F157 R v56 v6 v58 fun y59=>
k y59 v6 (0:Int)
|false=>none)
|false=>none)
|false=>(match bnd v6 a0.length with
|true=>let v60:=(a0.getD v6.toNat ((List.replicate 32 0),0,0,())).2.2.1;let v61:=IntKind.u64.wrap (v60+a2);F157 R a0 v6 v61 fun y62=>
k y62 v6 (0:Int)
|false=>none)))))))))
theorem q110 (F136:Kh) (F152:X4) (F153:Q6) (F154:Ub) (F155:Ll) (F157:Q5):EQ (en110 (p110 F136 F152 F153 F154 F155 F157)) (e110 F136 F152 F153 F154 F155 F157) Tryz.f110 [(.tmp 8,30,false),(.tmp 9,3,false),(.tmp 10,38,false)]:=fun _ _ _=>by kernel_rfl
def F110:zn2:=p110 F136 F152 F153 F154 F155 F157
theorem env110 (R:Type):Az Tryz.prog (e110 F136 F152 F153 F154 F155 F157 R):=⟨tabOK,eqOK,Aq (Aa zi4 (Aa ok152 (Aa ok154 (Aa zi3 (Aa zzq Ab))))),zvi ok156,(Ph ok153 Ak),noYl⟩
theorem ok110:OKP (en110 F110):=ST.ok3 (q110 F136 F152 F153 F154 F155 F157) env110 Tryz.func110 (fun _=>rfl) (fun _=>rfl) (fun _=>rfl) [] trivial
abbrev FT68:=(R:Type)→Tq31→Tq6→(Int→Tq31→Option R)→Option R
def en68 (F:FT68):Ent:=eM 68 [(true,Kq31),(false,Kq6)] [(false,(.int .i64))] F
def p68 (F110:zn2):FT68:=fun R a0 a1 k=>
F110 R a0.1.2.2.1 a1.2.2.2.1 a1.2.2.1 a0.1.1.2.2.2.2.1 fun y1 y2 y3=>
let v4:=IntKind.u64.wrap y2;k y3 ((a0.1.1,a0.1.2.1,y1,a0.1.2.2.2),(a0.2.1.1,v4,a0.2.1.2.2),a0.2.2)
theorem q68 (F110:zn2):EQ (en68 (p68 F110)) (sE 1 40 [] [en110 F110] []) Tryz.f68 [(.tmp 4,38,false)]:=fun _ _ _=>by kernel_rfl
def F68:FT68:=p68 F110
theorem ok68:OKP (en68 F68):=ST.ok0 (q68 F110) (Aa ok110 Ab) Tryz.func68
abbrev zce:=(R:Type)→(List Tq11)→Int→(Int→Option R)→Option R
def zt8 (F:zce):Ent:=eV 158 [(.sl Kq11),(.int .i64)] [(.int .i64)] F
def p158 (F152:X4):zce:=fun R a0 a1 k=>
F152 R a0 fun y1=>
(match (!y1) with
|true=>k (1:Int)
|false=>let v2:=decide (a1<0);(match v2 with
|true=>k (5:Int)
|false=>let v3:=(a0.length:Int);let v4:=decide (a1≥v3);(match v4 with
|true=>k (5:Int)
|false=>k (0:Int))))
theorem q158 (F152:X4):EQ (zt8 (p158 F152)) (sE 0 18 [] [zua F152] []) Tryz.f158 [(.tmp 4,38,false)]:=fun _ _ _=>by kernel_rfl
def F158:zce:=p158 F152
theorem ok158:OKP (zt8 F158):=ST.ok0 (q158 F152) (Aa ok152 Ab) Tryz.func158
abbrev zn1:=(R:Type)→(List Tq11)→Int→Int→((List Tq11)→Int→Int→Option R)→Option R
def en111 (F:zn1):Ent:=eV 111 [(.sl Kq11),(.int .i64),(.int .u64)] [(.sl Kq11),(.int .u64),(.int .i64)] F
def p111 (F157:Q5) (F158:zce):zn1:=fun R a0 a1 a2 k=>
F158 R a0 a1 fun y1=>
let v2:=a2==0;(match v2 with
|true=>k ([]:(List Tq11)) (0:Int) (1:Int)
|false=>let v3:=y1 !=0;(match v3 with
|true=>k ([]:(List Tq11)) (0:Int) y1
|false=>(match bnd a1 a0.length with
|true=>let v4:=(a0.getD a1.toNat ((List.replicate 32 0),0,0,())).2.2.1;let v5:=decide (a2>v4);(match v5 with
|true=>k ([]:(List Tq11)) (0:Int) (12:Int)
|false=>(match bnd a1 a0.length with
|true=>let v6:=(a0.getD a1.toNat ((List.replicate 32 0),0,0,())).2.2.1;let v7:=IntKind.u64.wrap (v6 - a2);F157 R a0 a1 v7 fun y8=>
k y8 v7 (0:Int)
|false=>none))
|false=>none)))
theorem q111 (F157:Q5) (F158:zce):EQ (en111 (p111 F157 F158)) (sE 0 41 [] [zk7 F157,zt8 F158] []) Tryz.f111 [(.tmp 6,30,false),(.tmp 7,31,false),(.tmp 8,38,false)]:=fun _ _ _=>by kernel_rfl
def F111:zn1:=p111 F157 F158
theorem ok111:OKP (en111 F111):=ST.ok0 (q111 F157 F158) (Aa zzq (Aa ok158 Ab)) Tryz.func111
abbrev FT69:=(R:Type)→Tq31→Tq6→(Int→Tq31→Option R)→Option R
def en69 (F:FT69):Ent:=eM 69 [(true,Kq31),(false,Kq6)] [(false,(.int .i64))] F
def p69 (F111:zn1):FT69:=fun R a0 a1 k=>
F111 R a0.1.2.2.1 a1.2.1 a1.2.2.1 fun y1 y2 y3=>
k y3 ((a0.1.1,a0.1.2.1,y1,a0.1.2.2.2),(a0.2.1.1,y2,a0.2.1.2.2),a0.2.2)
theorem q69 (F111:zn1):EQ (en69 (p69 F111)) (sE 1 28 [] [en111 F111] []) Tryz.f69 [(.tmp 4,38,false)]:=fun _ _ _=>by kernel_rfl
def F69:FT69:=p69 F111
theorem ok69:OKP (en69 F69):=ST.ok0 (q69 F111) (Aa ok111 Ab) Tryz.func69
abbrev zn0:=(R:Type)→(List Tq11)→Int→Int→((List Tq11)→Int→Int→Option R)→Option R
def en112 (F:zn0):Ent:=eV 112 [(.sl Kq11),(.int .i64),(.int .u64)] [(.sl Kq11),(.int .u64),(.int .i64)] F
def p112 (F157:Q5) (F158:zce):zn0:=fun R a0 a1 a2 k=>
F158 R a0 a1 fun y1=>
let v2:=y1 !=0;(match v2 with
|true=>k ([]:(List Tq11)) (0:Int) y1
|false=>(match bnd a1 a0.length with
|true=>let v3:=(a0.getD a1.toNat ((List.replicate 32 0),0,0,())).2.2.1;let v4:=if v3<a2 then v3 else a2;(match bnd a1 a0.length with
|true=>let v5:=(a0.getD a1.toNat ((List.replicate 32 0),0,0,())).2.2.1;let v6:=IntKind.u64.wrap (v5 - v4);F157 R a0 a1 v6 fun y7=>
k y7 v4 (0:Int)
|false=>none)
|false=>none))
theorem q112 (F157:Q5) (F158:zce):EQ (en112 (p112 F157 F158)) (sE 0 35 [] [zk7 F157,zt8 F158] []) Tryz.f112 [(.tmp 6,30,false),(.tmp 7,31,false),(.tmp 8,38,false)]:=fun _ _ _=>by kernel_rfl
def F112:zn0:=p112 F157 F158
theorem ok112:OKP (en112 F112):=ST.ok0 (q112 F157 F158) (Aa zzq (Aa ok158 Ab)) Tryz.func112
abbrev FT70:=(R:Type)→Tq31→Tq6→(Int→Tq31→Option R)→Option R
def en70 (F:FT70):Ent:=eM 70 [(true,Kq31),(false,Kq6)] [(false,(.int .i64))] F
def p70 (F112:zn0):FT70:=fun R a0 a1 k=>
F112 R a0.1.2.2.1 a1.2.1 a1.2.2.1 fun y1 y2 y3=>
k y3 ((a0.1.1,a0.1.2.1,y1,a0.1.2.2.2),(a0.2.1.1,y2,a0.2.1.2.2),a0.2.2)
theorem q70 (F112:zn0):EQ (en70 (p70 F112)) (sE 1 28 [] [en112 F112] []) Tryz.f70 [(.tmp 4,38,false)]:=fun _ _ _=>by kernel_rfl
def F70:FT70:=p70 F112
theorem ok70:OKP (en70 F70):=ST.ok0 (q70 F112) (Aa ok112 Ab) Tryz.func70
abbrev Qv:=(R:Type)→Tq31→Int→(Int→Tq31→Option R)→Option R
def zla (F:Qv):Ent:=eM 113 [(true,Kq31),(false,(.int .i64))] [(false,(.int .i64))] F
def p113:Qv:=fun R a0 a1 k=>
let v1:=decide (a1<0);(match v1 with
|true=>k (5:Int) a0
|false=>let v2:=(a0.1.2.2.1.length:Int);let v3:=decide (a1≥v2);(match v3 with
|true=>k (5:Int) a0
|false=>k (0:Int) a0))
theorem q113:EQ (zla p113) (sE 1 17 [] [] []) Tryz.f113 [(.tmp 4,38,false)]:=fun _ _ _=>by kernel_rfl
def F113:Qv:=p113
theorem zzv:OKP (zla F113):=ST.ok0 q113 Ab Tryz.func113
abbrev zcd:=(R:Type)→Tq21→Int→(Bool→Option R)→Option R
def zt7 (F:zcd):Ent:=eV 159 [Kq21,(.int .i64)] [.bool] F
def p159 (F34:FT34):zcd:=fun R a0 a1 k=>
F34 R a0 fun y1=>
(match y1 with
|true=>let v2:=decide (a1≥0);(match v2 with
|true=>let v3:=decide (a1<a0.1);k v3
|false=>k false)
|false=>k false)
theorem q159 (F34:FT34):EQ (zt7 (p159 F34)) (sE 0 17 [] [en34 F34] []) Tryz.f159 [(.tmp 4,4,false)]:=fun _ _ _=>by kernel_rfl
def F159:zcd:=p159 F34
theorem ok159:OKP (zt7 F159):=ST.ok0 (q159 F34) (Aa ok34 Ab) Tryz.func159
abbrev Uf:=(R:Type)→Tq21→Int→(Int→Option R)→Option R
def zuh (F:Uf):Ent:=eV 114 [Kq21,(.int .i64)] [(.int .i64)] F
def p114 (F159:zcd):Uf:=fun R a0 a1 k=>
F159 R a0 a1 fun y1=>
(match (!y1) with
|true=>k (0:Int)
|false=>let v2:=decide (a1<a0.2.1);(match v2 with
|true=>k (1:Int)
|false=>let v3:=IntKind.i64.wrap (a0.2.1+a0.2.2.1);let v4:=decide (a1<v3);(match v4 with
|true=>k (2:Int)
|false=>k (3:Int))))
theorem q114 (F159:zcd):EQ (zuh (p114 F159)) (sE 0 23 [] [zt7 F159] []) Tryz.f114 [(.tmp 4,3,false)]:=fun _ _ _=>by kernel_rfl
def F114:Uf:=p114 F159
theorem ok114:OKP (zuh F114):=ST.ok0 (q114 F159) (Aa ok159 Ab) Tryz.func114
abbrev znm:=(R:Type)→(LI→Option R)→Option R
def en179 (F:znm):Ent:=eV 179 [] [(.arr 8 (.int .u32))] F
def p179:znm:=fun R k=>
let v1:=List.set (List.set (List.set (List.set (List.set (List.set (List.set (List.set (List.replicate 8 (0:Int)) 0 (1779033703:Int)) 1 (3144134277:Int)) 2 (1013904242:Int)) 3 (2773480762:Int)) 4 (1359893119:Int)) 5 (2600822924:Int)) 6 (528734635:Int)) 7 (1541459225:Int);k v1
theorem q179:EQ (en179 p179) (sE 0 2 [] [] []) Tryz.f179 [(.cell 0 158,158,false)]:=fun _ _ _=>by kernel_rfl
def F179:znm:=p179
theorem ok179:OKP (en179 F179):=ST.ok0 q179 Ab Tryz.func179
abbrev zns:=(R:Type)→(Tq33→Option R)→Option R
def en129 (F:zns):Ent:=eV 129 [] [Kq33] F
def p129 (F179:znm):zns:=fun R k=>
F179 R  fun y1=>
k (y1,([]:LI),(0:Int),())
theorem q129 (F179:znm):EQ (en129 (p129 F179)) (sE 0 3 [] [en179 F179] []) Tryz.f129 [(.cell 0 203,203,false)]:=fun _ _ _=>by kernel_rfl
def F129:zns:=p129 F179
theorem ok129:OKP (en129 F129):=ST.ok0 (q129 F179) (Aa ok179 Ab) Tryz.func129
abbrev zb7:=(R:Type)→Tq33→(Bool→Option R)→Option R
def en177 (F:zb7):Ent:=eV 177 [Kq33] [.bool] F
def p177:zb7:=fun R a0 k=>
let v1:=decide (a0.2.2.1<2305843009213693952);(match v1 with
|true=>let v2:=(a0.2.1.length:Int);let v3:=IntKind.u64.wrap v2;let v4:=iand .u64 a0.2.2.1 (63:Int);let v5:=v3==v4;k v5
|false=>k false)
theorem q177:EQ (en177 p177) (sE 0 16 [] [] []) Tryz.f177 [(.tmp 2,4,false)]:=fun _ _ _=>by kernel_rfl
def F177:zb7:=p177
theorem ok177:OKP (en177 F177):=ST.ok0 q177 Ab Tryz.func177
abbrev zu0:Type 1:=(R:Type)→LI→(LI→Option R)→Option R
def en214 (F:zu0):Ent:=⟨214,[(false,(.sl (.int .u8)))],[(true,(.int .u8))],fun R x k=>F R x.1 (fun y1=>k (y1,()) ())⟩
def e214:Env (RT [(true,(.int .u8))]):=⟨TT,EQT,0,8,Bm [(2,0),(3,0)],fun _ _ _=>none,fun _ _ _=>none,[],Bc [],[],fun _ _ _ _=>none⟩
def F214:zu0:=fun R a0 k=>match decide (List.length ([]:LI)+a0.length≤140737488355328) with | true=>k a0 | false=>none
theorem ok214:(en214 F214).OK Tryz.prog:=
 I6 (e:=(.int .u8)) e214 ⟨tabOK,eqOK,(fun f b K r h=>by cases h),Bw,Ak,noYl⟩ mixed Tryz.func214 (body:=Ag Tryz.f214) (by kernel_rfl) (by kernel_rfl) (by kernel_rfl) (res:=[(.tmp 2,25,true)]) (by kernel_rfl) rfl (by decide) (by kernel_rfl) (lim:=140737488355328) (by kernel_rfl) (fun l=>by kernel_rfl)
abbrev zby:=(R:Type)→LI→((List LI)→LI→Option R)→Option R
def en216 (F:zby):Ent:=eV 216 [(.sl (.int .u8))] [(.sl (.arr 64 (.int .u8))),(.sl (.int .u8))] F
abbrev zpn (Z:Type):=LI→(List LI)→Z
abbrev zw6 (R:Type):=(LI→(List LI)→Option R)→Option R
abbrev Ms:=(R:Type)→zpn (zw6 R)
def Zo (L:Ms):LEnt:=lM 1 [.val 0 (.sl (.int .u8)),.fix 2 (.own 0 0),.row 0 (.arr 64 (.int .u8)) false] 1 [(.exit 0,[.val 0 (.sl (.int .u8)),.fix 2 (.own 0 0),.row 0 (.arr 64 (.int .u8)) false])] L
def e216 (L1:Ms):=sE 0 17 [(0,0)] [] [Zo L1]
def zic (R:Type):zpn (zpn (Option R)→zw6 R):=fun x1 x2 kc k0=>
let v3:=(x1.length:Int);let v4:=decide (v3≥64);(match v4 with
|true=>(match (decide ((64:Int)≤(x1.length:Int))) with
|true=>let v5:=List.take 64 x1;let v6:=([v5]:(List LI));(match (decide (x2.length+v6.length≤2199023255552)) with
|true=>let v7:=x2++v6;(match (decide (0≤(64:Int)∧(64:Int)≤(x1.length:Int)∧(x1.length:Int)≤(x1.length:Int)∧(x1.length:Int)≤(x1.length:Int))) with
|true=>let v8:=List.take (Int.toNat ((x1.length:Int) - (64:Int))) (List.drop 64 x1);kc v8 v7
|false=>none)
|false=>none)
|false=>none)
|false=>k0 x1 x2)
theorem q216_1 (L1:Ms):LEQ (Zo L1) (e216 L1) Tryz.f216 zic:=fun _ _ _ _=>by kernel_rfl
def Qg:Nat→Ms
 | 0=>fun _ _ _ _=>none
 | n+1=>fun R x1 x2 k0=>zic R x1 x2 (fun x1 x2=>Qg n R x1 x2 k0) k0
def p216 (L1:Ms):zby:=fun R a0 k=>
L1 R a0 ([]:(List LI)) (fun x1 x2=>
k x2 x1)
theorem q216 (L1:Ms):EQ (en216 (p216 L1)) (e216 L1) Tryz.f216 [(.tmp 2,152,false),(.tmp 3,25,false)]:=fun _ _ _=>by kernel_rfl
def F216:zby:=p216 (Qg FUEL)
theorem zr7:LKP (Zo (Qg FUEL)) 0 17 1 Tryz.f216:=ST.lok (q216_1 (Qg FUEL)) Ab [] trivial
theorem ok216:OKP (en216 F216):=ST.ok1 (q216 (Qg FUEL)) Ab Tryz.func216 [1] ⟨⟨_,rfl,zr7⟩,trivial⟩
abbrev Xu:=(R:Type)→(LI→Option R)→Option R
def en236 (F:Xu):Ent:=eV 236 [] [(.arr 64 (.int .u32))] F
def p236:Xu:=fun R k=>
let v1:=List.set (List.set (List.set (List.set (List.set (List.set (List.set (List.set (List.set (List.set (List.set (List.set (List.set (List.set (List.set (List.set (List.set (List.set (List.set (List.set (List.set (List.set (List.set (List.set (List.set (List.set (List.set (List.set (List.set (List.set (List.set (List.set (List.set (List.set (List.set (List.set (List.set (List.set (List.set (List.set (List.set (List.set (List.set (List.set (List.set (List.set (List.set (List.set (List.set (List.set (List.set (List.set (List.set (List.set (List.set (List.set (List.set (List.set (List.set (List.set (List.set (List.set (List.set (List.set (List.replicate 64 (0:Int)) 0 (1116352408:Int)) 1 (1899447441:Int)) 2 (3049323471:Int)) 3 (3921009573:Int)) 4 (961987163:Int)) 5 (1508970993:Int)) 6 (2453635748:Int)) 7 (2870763221:Int)) 8 (3624381080:Int)) 9 (310598401:Int)) 10 (607225278:Int)) 11 (1426881987:Int)) 12 (1925078388:Int)) 13 (2162078206:Int)) 14 (2614888103:Int)) 15 (3248222580:Int)) 16 (3835390401:Int)) 17 (4022224774:Int)) 18 (264347078:Int)) 19 (604807628:Int)) 20 (770255983:Int)) 21 (1249150122:Int)) 22 (1555081692:Int)) 23 (1996064986:Int)) 24 (2554220882:Int)) 25 (2821834349:Int)) 26 (2952996808:Int)) 27 (3210313671:Int)) 28 (3336571891:Int)) 29 (3584528711:Int)) 30 (113926993:Int)) 31 (338241895:Int)) 32 (666307205:Int)) 33 (773529912:Int)) 34 (1294757372:Int)) 35 (1396182291:Int)) 36 (1695183700:Int)) 37 (1986661051:Int)) 38 (2177026350:Int)) 39 (2456956037:Int)) 40 (2730485921:Int)) 41 (2820302411:Int)) 42 (3259730800:Int)) 43 (3345764771:Int)) 44 (3516065817:Int)) 45 (3600352804:Int)) 46 (4094571909:Int)) 47 (275423344:Int)) 48 (430227734:Int)) 49 (506948616:Int)) 50 (659060556:Int)) 51 (883997877:Int)) 52 (958139571:Int)) 53 (1322822218:Int)) 54 (1537002063:Int)) 55 (1747873779:Int)) 56 (1955562222:Int)) 57 (2024104815:Int)) 58 (2227730452:Int)) 59 (2361852424:Int)) 60 (2428436474:Int)) 61 (2756734187:Int)) 62 (3204031479:Int)) 63 (3329325298:Int);k v1
theorem q236:EQ (en236 p236) (sE 0 2 [] [] []) Tryz.f236 [(.cell 0 243,243,false)]:=fun _ _ _=>by kernel_rfl
def F236:Xu:=p236
theorem zzh:OKP (en236 F236):=ST.ok0 q236 Ab Tryz.func236
abbrev zbl:=(R:Type)→Int→Int→Int→Int→(Int→Option R)→Option R
def ztu (F:zbl):Ent:=eV 257 [(.int .u32),(.int .i64),(.int .i64),(.int .i64)] [(.int .u32)] F
def p257 (F260:zbj) (F261:zm1):zbl:=fun R a0 a1 a2 a3 k=>
F260 R a0 a1 fun y1=>
F260 R a0 a2 fun y2=>
let v3:=ixor .u32 y1 y2;F261 R a0 a3 fun y4=>
let v5:=ixor .u32 v3 y4;k v5
theorem q257 (F260:zbj) (F261:zm1):EQ (ztu (p257 F260 F261)) (sE 0 20 [] [zts F260,en261 F261] []) Tryz.f257 [(.tmp 8,130,false)]:=fun _ _ _=>by kernel_rfl
def F257:zbl:=p257 F260 F261
theorem ok257:OKP (ztu F257):=ST.ok0 (q257 F260 F261) (Aa ok260 (Aa ok261 Ab)) Tryz.func257
abbrev zbn:=(R:Type)→Int→(Int→Option R)→Option R
def en250 (F:zbn):Ent:=eV 250 [(.int .u32)] [(.int .u32)] F
def p250 (F257:zbl):zbn:=fun R a0 k=>
F257 R a0 (17:Int) (19:Int) (10:Int) fun y1=>
k y1
theorem q250 (F257:zbl):EQ (en250 (p250 F257)) (sE 0 5 [] [ztu F257] []) Tryz.f250 [(.tmp 2,130,false)]:=fun _ _ _=>by kernel_rfl
def F250:zbn:=p250 F257
theorem ok250:OKP (en250 F250):=ST.ok0 (q250 F257) (Aa ok257 Ab) Tryz.func250
abbrev zbm:=(R:Type)→Int→(Int→Option R)→Option R
def en251 (F:zbm):Ent:=eV 251 [(.int .u32)] [(.int .u32)] F
def p251 (F257:zbl):zbm:=fun R a0 k=>
F257 R a0 (7:Int) (18:Int) (3:Int) fun y1=>
k y1
theorem q251 (F257:zbl):EQ (en251 (p251 F257)) (sE 0 5 [] [ztu F257] []) Tryz.f251 [(.tmp 2,130,false)]:=fun _ _ _=>by kernel_rfl
def F251:zbm:=p251 F257
theorem ok251:OKP (en251 F251):=ST.ok0 (q251 F257) (Aa ok257 Ab) Tryz.func251
abbrev Xt:=(R:Type)→LI→(LI→Option R)→Option R
def en237 (F:Xt):Ent:=eV 237 [(.arr 64 (.int .u8))] [(.arr 64 (.int .u32))] F
abbrev zpg (Z:Type):=Int→LI→LI→Z
abbrev zwz (R:Type):=(LI→Option R)→Option R
abbrev Mn:=(R:Type)→zpg (zwz R)
def Zh (L:Mn):LEnt:=lM 2 [.fix 1 (.ptr 0 [] (.arr 64 (.int .u8))),.fix 2 (.ptr 1 [] (.arr 64 (.int .u32))),.val 5 (.int .i64),.var 0 (.arr 64 (.int .u8)) false,.var 1 (.arr 64 (.int .u32)) false] 2 [(.exit 0,[.fix 2 (.ptr 1 [] (.arr 64 (.int .u32))),.var 1 (.arr 64 (.int .u32)) false])] L
def e237 (F194:Oa) (F250:zbn) (F251:zbm) (L2:Mn):=sE 0 46 [] [zk3 F194,en250 F250,en251 F251] [Zh L2]
def zh5 (F194:Oa) (F250:zbn) (F251:zbm) (R:Type):zpg (zpg (Option R)→zwz R):=fun x1 x2 x3 kc k0=>
let v4:=decide (x1<64);(match v4 with
|true=>let v5:=IntKind.i64.wrap ((4:Int)*x1);let v6:=decide (v5<64);(match v6 with
|true=>let v7:=IntKind.i64.wrap (v5+4);(match (decide (0≤v5∧v5≤v7∧v7≤64)) with
|true=>(match (decide ((4:Int)≤((Int.toNat (v7 - v5)):Nat))) with
|true=>let v8:=List.take 4 (List.drop v5.toNat x2);F194 R v8 fun y9=>
(match (bnd x1 (64:Int)) with
|true=>let v10:=x3.set x1.toNat y9;let v11:=IntKind.i64.wrap (x1+1);kc v11 x2 v10
|false=>none)
|false=>none)
|false=>none)
|false=>let v12:=IntKind.i64.wrap (x1 - 2);(match (bnd v12 (64:Int)) with
|true=>let v13:=x3.getD v12.toNat 0;F250 R v13 fun y14=>
let v15:=IntKind.i64.wrap (x1 - 7);(match (bnd v15 (64:Int)) with
|true=>let v16:=x3.getD v15.toNat 0;let v17:=IntKind.u32.wrap (y14+v16);let v18:=IntKind.i64.wrap (x1 - 15);(match (bnd v18 (64:Int)) with
|true=>let v19:=x3.getD v18.toNat 0;F251 R v19 fun y20=>
let v21:=IntKind.u32.wrap (v17+y20);let v22:=IntKind.i64.wrap (x1 - 16);(match (bnd v22 (64:Int)) with
|true=>let v23:=x3.getD v22.toNat 0;let v24:=IntKind.u32.wrap (v21+v23);(match (bnd x1 (64:Int)) with
|true=>let v25:=x3.set x1.toNat v24;let v26:=IntKind.i64.wrap (x1+1);kc v26 x2 v25
|false=>none)
|false=>none)
|false=>none)
|false=>none)
|false=>none))
|false=>k0 x3)
theorem q237_2 (F194:Oa) (F250:zbn) (F251:zbm) (L2:Mn):LEQ (Zh L2) (e237 F194 F250 F251 L2) Tryz.f237 (zh5 F194 F250 F251):=fun _ _ _ _=>by kernel_rfl
def Qc:Nat→Mn
 | 0=>fun _ _ _ _ _=>none
 | n+1=>fun R x1 x2 x3 k0=>zh5 F194 F250 F251 R x1 x2 x3 (fun x1 x2 x3=>Qc n R x1 x2 x3 k0) k0
def p237 (L2:Mn):Xt:=fun R a0 k=>
L2 R (0:Int) a0 (List.replicate 64 (0:Int)) (fun x1=>
k x1)
theorem q237 (F194:Oa) (F250:zbn) (F251:zbm) (L2:Mn):EQ (en237 (p237 L2)) (e237 F194 F250 F251 L2) Tryz.f237 [(.cell 2 244,244,false)]:=fun _ _ _=>by kernel_rfl
def F237:Xt:=p237 (Qc FUEL)
theorem zr0:LKP (Zh (Qc FUEL)) 0 46 2 Tryz.f237:=ST.lok (q237_2 F194 F250 F251 (Qc FUEL)) (Aa zrk (Aa ok250 (Aa ok251 Ab))) [] trivial
theorem zzg:OKP (en237 F237):=ST.ok1 (q237 F194 F250 F251 (Qc FUEL)) (Aa zrk (Aa ok250 (Aa ok251 Ab))) Tryz.func237 [2] ⟨⟨_,rfl,zr0⟩,trivial⟩
abbrev zbk:=(R:Type)→Int→Int→Int→Int→(Int→Option R)→Option R
def ztt (F:zbk):Ent:=eV 258 [(.int .u32),(.int .i64),(.int .i64),(.int .i64)] [(.int .u32)] F
def p258 (F260:zbj):zbk:=fun R a0 a1 a2 a3 k=>
F260 R a0 a1 fun y1=>
F260 R a0 a2 fun y2=>
let v3:=ixor .u32 y1 y2;F260 R a0 a3 fun y4=>
let v5:=ixor .u32 v3 y4;k v5
theorem q258 (F260:zbj):EQ (ztt (p258 F260)) (sE 0 20 [] [zts F260] []) Tryz.f258 [(.tmp 8,130,false)]:=fun _ _ _=>by kernel_rfl
def F258:zbk:=p258 F260
theorem ok258:OKP (ztt F258):=ST.ok0 (q258 F260) (Aa ok260 Ab) Tryz.func258
abbrev zm5:=(R:Type)→Int→Int→Int→(Int→Option R)→Option R
def en252 (F:zm5):Ent:=eV 252 [(.int .u32),(.int .u32),(.int .u32)] [(.int .u32)] F
def p252 (F258:zbk):zm5:=fun R a0 a1 a2 k=>
F258 R a0 (6:Int) (11:Int) (25:Int) fun y1=>
let v2:=iand .u32 a0 a1;let v3:=ixor .u32 (4294967295:Int) a0;let v4:=iand .u32 v3 a2;let v5:=ixor .u32 v2 v4;let v6:=IntKind.u32.wrap (y1+v5);k v6
theorem q252 (F258:zbk):EQ (en252 (p252 F258)) (sE 0 18 [] [ztt F258] []) Tryz.f252 [(.tmp 6,130,false)]:=fun _ _ _=>by kernel_rfl
def F252:zm5:=p252 F258
theorem ok252:OKP (en252 F252):=ST.ok0 (q252 F258) (Aa ok258 Ab) Tryz.func252
abbrev zm4:=(R:Type)→Int→Int→Int→(Int→Option R)→Option R
def en253 (F:zm4):Ent:=eV 253 [(.int .u32),(.int .u32),(.int .u32)] [(.int .u32)] F
def p253 (F258:zbk):zm4:=fun R a0 a1 a2 k=>
F258 R a0 (2:Int) (13:Int) (22:Int) fun y1=>
let v2:=iand .u32 a0 a1;let v3:=iand .u32 a0 a2;let v4:=ixor .u32 v2 v3;let v5:=iand .u32 a1 a2;let v6:=ixor .u32 v4 v5;let v7:=IntKind.u32.wrap (y1+v6);k v7
theorem q253 (F258:zbk):EQ (en253 (p253 F258)) (sE 0 21 [] [ztt F258] []) Tryz.f253 [(.tmp 6,130,false)]:=fun _ _ _=>by kernel_rfl
def F253:zm4:=p253 F258
theorem ok253:OKP (en253 F253):=ST.ok0 (q253 F258) (Aa ok258 Ab) Tryz.func253
abbrev Xs:=(R:Type)→LI→Int→Int→(LI→Option R)→Option R
def en238 (F:Xs):Ent:=eV 238 [(.arr 8 (.int .u32)),(.int .u32),(.int .u32)] [(.arr 8 (.int .u32))] F
def p238 (F252:zm5) (F253:zm4):Xs:=fun R a0 a1 a2 k=>
let v1:=a0.getD 7 0;let v2:=a0.getD 4 0;let v3:=a0.getD 5 0;let v4:=a0.getD 6 0;F252 R v2 v3 v4 fun y5=>
let v6:=IntKind.u32.wrap (v1+y5);let v7:=IntKind.u32.wrap (v6+a2);let v8:=IntKind.u32.wrap (v7+a1);let v9:=lay (List.replicate 8 (0:Int)) 1 (List.take 7 (List.take 7 (List.drop 0 a0)));let v10:=a0.getD 0 0;let v11:=a0.getD 1 0;let v12:=a0.getD 2 0;F253 R v10 v11 v12 fun y13=>
let v14:=IntKind.u32.wrap (v8+y13);let v15:=v9.set 0 v14;let v16:=v15.getD 4 0;let v17:=IntKind.u32.wrap (v16+v8);let v18:=v15.set 4 v17;k v18
theorem q238 (F252:zm5) (F253:zm4):EQ (en238 (p238 F252 F253)) (sE 0 41 [] [en252 F252,en253 F253] []) Tryz.f238 [(.cell 6 158,158,false)]:=fun _ _ _=>by kernel_rfl
def F238:Xs:=p238 F252 F253
theorem zzf:OKP (en238 F238):=ST.ok0 (q238 F252 F253) (Aa ok252 (Aa ok253 Ab)) Tryz.func238
abbrev zbx:=(R:Type)→LI→LI→(LI→Option R)→Option R
def en217 (F:zbx):Ent:=eV 217 [(.arr 8 (.int .u32)),(.arr 64 (.int .u8))] [(.arr 8 (.int .u32))] F
abbrev zpm (Z:Type):=LI→Int→LI→LI→LI→LI→Z
abbrev zw5 (R:Type):=(LI→LI→LI→Option R)→Option R
abbrev J4:=(R:Type)→zpm (zw5 R)
def Zn (L:J4):LEnt:=lM 3 [.fix 2 (.ptr 0 [] (.arr 8 (.int .u32))),.fix 4 (.ptr 2 [] (.arr 8 (.int .u32))),.fix 5 (.ptr 3 [] (.arr 8 (.int .u32))),.fix 6 (.ptr 4 [] (.arr 64 (.int .u32))),.val 13 (.arr 64 (.int .u32)),.val 14 (.int .i64),.var 0 (.arr 8 (.int .u32)) false,.var 2 (.arr 8 (.int .u32)) false,.var 3 (.arr 8 (.int .u32)) false,.var 4 (.arr 64 (.int .u32)) false] 5 [(.exit 0,[.fix 2 (.ptr 0 [] (.arr 8 (.int .u32))),.fix 4 (.ptr 2 [] (.arr 8 (.int .u32))),.fix 5 (.ptr 3 [] (.arr 8 (.int .u32))),.var 0 (.arr 8 (.int .u32)) false,.var 2 (.arr 8 (.int .u32)) false,.var 3 (.arr 8 (.int .u32)) false])] L
abbrev zpl (Z:Type):=Int→LI→LI→LI→Z
abbrev zw4 (R:Type):=(LI→LI→Option R)→Option R
abbrev J3:=(R:Type)→zpl (zw4 R)
def Zm (L:J3):LEnt:=lM 8 [.fix 2 (.ptr 0 [] (.arr 8 (.int .u32))),.fix 4 (.ptr 2 [] (.arr 8 (.int .u32))),.fix 5 (.ptr 3 [] (.arr 8 (.int .u32))),.val 25 (.int .i64),.var 0 (.arr 8 (.int .u32)) false,.var 2 (.arr 8 (.int .u32)) false,.var 3 (.arr 8 (.int .u32)) false] 4 [(.exit 2,[.fix 4 (.ptr 2 [] (.arr 8 (.int .u32))),.fix 5 (.ptr 3 [] (.arr 8 (.int .u32))),.var 2 (.arr 8 (.int .u32)) false,.var 3 (.arr 8 (.int .u32)) false])] L
def e217 (F236:Xu) (F237:Xt) (F238:Xs) (L3:J4) (L8:J3):=sE 0 38 [] [en236 F236,en237 F237,en238 F238] [Zn L3,Zm L8]
def zib (F238:Xs) (R:Type):zpm (zpm (Option R)→zw5 R):=fun x1 x2 x3 x4 x5 x6 kc k0=>
let v7:=decide (x2<64);(match v7 with
|true=>(match (bnd x2 (64:Int)) with
|true=>let v8:=x1.getD x2.toNat 0;(match (bnd x2 (64:Int)) with
|true=>let v9:=x6.getD x2.toNat 0;F238 R x5 v8 v9 fun y10=>
let v11:=IntKind.i64.wrap (x2+1);kc x1 v11 x3 x4 y10 x6
|false=>none)
|false=>none)
|false=>k0 x3 x4 x5)
theorem q217_3 (F236:Xu) (F237:Xt) (F238:Xs) (L3:J4) (L8:J3):LEQ (Zn L3) (e217 F236 F237 F238 L3 L8) Tryz.f217 (zib F238):=fun _ _ _ _=>by kernel_rfl
def Nv:Nat→J4
 | 0=>fun _ _ _ _ _ _ _ _=>none
 | n+1=>fun R x1 x2 x3 x4 x5 x6 k0=>zib F238 R x1 x2 x3 x4 x5 x6 (fun x1 x2 x3 x4 x5 x6=>Nv n R x1 x2 x3 x4 x5 x6 k0) k0
def zia (R:Type):zpl (zpl (Option R)→zw4 R):=fun x1 x2 x3 x4 kc k0=>
let v5:=decide (x1<8);(match v5 with
|true=>(match (bnd x1 (8:Int)) with
|true=>let v6:=x4.getD x1.toNat 0;(match (bnd x1 (8:Int)) with
|true=>let v7:=x2.getD x1.toNat 0;let v8:=IntKind.u32.wrap (v6+v7);(match (bnd x1 (8:Int)) with
|true=>let v9:=x4.set x1.toNat v8;let v10:=IntKind.i64.wrap (x1+1);kc v10 x2 x3 v9
|false=>none)
|false=>none)
|false=>none)
|false=>k0 x3 x4)
theorem q217_8 (F236:Xu) (F237:Xt) (F238:Xs) (L3:J4) (L8:J3):LEQ (Zm L8) (e217 F236 F237 F238 L3 L8) Tryz.f217 zia:=fun _ _ _ _=>by kernel_rfl
def Le:Nat→J3
 | 0=>fun _ _ _ _ _ _=>none
 | n+1=>fun R x1 x2 x3 x4 k0=>zia R x1 x2 x3 x4 (fun x1 x2 x3 x4=>Le n R x1 x2 x3 x4 k0) k0
def p217 (F236:Xu) (F237:Xt) (L3:J4) (L8:J3):zbx:=fun R a0 a1 k=>
F236 R  fun y1=>
F237 R a1 fun y2=>
L3 R y2 (0:Int) a0 (List.replicate 8 (0:Int)) a0 y1 (fun x3 x4 x5=>
L8 R (0:Int) x3 x4 x5 (fun x6 x7=>
k x7))
theorem q217 (F236:Xu) (F237:Xt) (F238:Xs) (L3:J4) (L8:J3):EQ (en217 (p217 F236 F237 L3 L8)) (e217 F236 F237 F238 L3 L8) Tryz.f217 [(.cell 4 158,158,false)]:=fun _ _ _=>by kernel_rfl
def F217:zbx:=p217 F236 F237 (Nv FUEL) (Le FUEL)
theorem zr6:LKP (Zn (Nv FUEL)) 0 38 3 Tryz.f217:=ST.lok (q217_3 F236 F237 F238 (Nv FUEL) (Le FUEL)) (Aa zzh (Aa zzg (Aa zzf Ab))) [] trivial
theorem zr5:LKP (Zm (Le FUEL)) 0 38 8 Tryz.f217:=ST.lok (q217_8 F236 F237 F238 (Nv FUEL) (Le FUEL)) (Aa zzh (Aa zzg (Aa zzf Ab))) [] trivial
theorem ok217:OKP (en217 F217):=ST.ok1 (q217 F236 F237 F238 (Nv FUEL) (Le FUEL)) (Aa zzh (Aa zzg (Aa zzf Ab))) Tryz.func217 [3,8] ⟨⟨_,rfl,zr6⟩,⟨⟨_,rfl,zr5⟩,trivial⟩⟩
abbrev zb5:=(R:Type)→Tq34→LI→(LI→Tq34→Option R)→Option R
def zt2 (F:zb5):Ent:=eM 181 [(true,Kq34),(false,(.sl (.int .u8)))] [(false,(.sl (.int .u8)))] F
abbrev zpv (Z:Type):=LI→(List LI)→Int→Int→Tq34→Z
abbrev zxe (R:Type):=(LI→Tq34→Option R)→Option R
abbrev Mx:=(R:Type)→zpv (zxe R)
def Zw (L:Mx):LEnt:=lM 3 [.fix 0 (.ptr 0 [] Kq34),.val 6 (.sl (.int .u8)),.val 14 (.sl (.arr 64 (.int .u8))),.val 15 (.int .i64),.val 16 (.int .i64),.var 0 Kq34 false] 1 [(.exit 0,[.val 6 (.sl (.int .u8)),.var 0 Kq34 false])] L
def e181 (F216:zby) (F217:zbx) (L3:Mx):=sE 1 33 [] [en216 F216,en217 F217] [Zw L3]
def zij (F217:zbx) (R:Type):zpv (zpv (Option R)→zxe R):=fun x1 x2 x3 x4 x5 kc k0=>
let v6:=decide (x4<x3);(match v6 with
|true=>(match bnd x4 x2.length with
|true=>let v7:=x2.getD x4.toNat (List.replicate 64 0);F217 R x5.1.1 v7 fun y8=>
let v9:=IntKind.i64.wrap (x4+1);kc x1 x2 x3 v9 ((y8,x5.1.2),x5.2)
|false=>none)
|false=>k0 x1 x5)
theorem q181_3 (F216:zby) (F217:zbx) (L3:Mx):LEQ (Zw L3) (e181 F216 F217 L3) Tryz.f181 (zij F217):=fun _ _ _ _=>by kernel_rfl
def Ql:Nat→Mx
 | 0=>fun _ _ _ _ _ _ _=>none
 | n+1=>fun R x1 x2 x3 x4 x5 k0=>zij F217 R x1 x2 x3 x4 x5 (fun x1 x2 x3 x4 x5=>Ql n R x1 x2 x3 x4 x5 k0) k0
def p181 (F216:zby) (L3:Mx):zb5:=fun R a0 a1 k=>
F216 R a1 fun y1 y2=>
let v3:=(y1.length:Int);L3 R y2 y1 v3 (0:Int) a0 (fun x4 x5=>
k x4 x5)
theorem q181 (F216:zby) (F217:zbx) (L3:Mx):EQ (zt2 (p181 F216 L3)) (e181 F216 F217 L3) Tryz.f181 [(.tmp 4,25,false)]:=fun _ _ _=>by kernel_rfl
def F181:zb5:=p181 F216 (Ql FUEL)
theorem zsf:LKP (Zw (Ql FUEL)) 1 33 3 Tryz.f181:=ST.lok (q181_3 F216 F217 (Ql FUEL)) (Aa ok216 (Aa ok217 Ab)) [] trivial
theorem ok181:OKP (zt2 F181):=ST.ok1 (q181 F216 F217 (Ql FUEL)) (Aa ok216 (Aa ok217 Ab)) Tryz.func181 [3] ⟨⟨_,rfl,zsf⟩,trivial⟩
abbrev zb6:=(R:Type)→Tq34→LI→(Tq34→Option R)→Option R
def en178 (F:zb6):Ent:=eM 178 [(true,Kq34),(false,(.sl (.int .u8)))] [] F
def p178 (F181:zb5) (F214:zu0):zb6:=fun R a0 a1 k=>
let v1:=(a1.length:Int);let v2:=IntKind.u64.wrap v1;let v3:=IntKind.u64.wrap (a0.1.2.2.1+v2);F214 R a0.1.2.1 fun y4=>
(match (decide (y4.length+a1.length≤140737488355328)) with
|true=>let v5:=y4++a1;F181 R ((a0.1.1,a0.1.2.1,v3,a0.1.2.2.2),a0.2) v5 fun y6 p7=>
k ((p7.1.1,y6,p7.1.2.2),p7.2)
|false=>none)
theorem q178 (F181:zb5) (F214:zu0):EQ (en178 (p178 F181 F214)) (sE 1 30 [] [zt2 F181,en214 F214] []) Tryz.f178 []:=fun _ _ _=>by kernel_rfl
def F178:zb6:=p178 F181 F214
theorem ok178:OKP (en178 F178):=ST.ok0 (q178 F181 F214) (Aa ok181 (Aa ok214 Ab)) Tryz.func178
abbrev znt:=(R:Type)→Tq33→(List LI)→(Tq33→Int→Option R)→Option R
def en128 (F:znt):Ent:=eV 128 [Kq33,(.sl (.sl (.int .u8)))] [Kq33,(.int .i64)] F
abbrev zp6 (Z:Type):=(List LI)→Int→Int→Tq33→Tq34→Z
abbrev zxp (R:Type):=(Int→Tq33→Option R)→(Tq33→Tq34→Option R)→Option R
abbrev M7:=(R:Type)→zp6 (zxp R)
def Z7 (L:M7):LEnt:=lM 5 [.fix 4 (.ptr 1 [] Kq33),.fix 6 (.ptr 2 [] Kq34),.val 15 (.sl (.sl (.int .u8))),.val 16 (.int .i64),.val 17 (.int .i64),.var 1 Kq33 false,.var 2 Kq34 false] 3 [(.ret,[.fix 4 (.ptr 1 [] Kq33),.val 5 (.int .i64),.var 1 Kq33 false]),(.exit 0,[.fix 4 (.ptr 1 [] Kq33),.fix 6 (.ptr 2 [] Kq34),.var 1 Kq33 false,.var 2 Kq34 false])] L
def e128 (F177:zb7) (F178:zb6) (L5:M7):=sE 0 31 [] [en177 F177,en178 F178] [Z7 L5]
def zdo (F178:zb6) (R:Type):zp6 (zp6 (Option R)→zxp R):=fun x1 x2 x3 x4 x5 kc k0 k1=>
let v6:=decide (x3<x2);(match v6 with
|true=>(match bnd x3 x1.length with
|true=>let v7:=x1.getD x3.toNat [];F178 R x5 v7 fun p8=>
let v9:=decide (p8.1.2.2.1≥2305843009213693952);(match v9 with
|true=>k0 (11:Int) ((List.replicate 8 (0:Int)),([]:LI),(0:Int),())
|false=>let v10:=IntKind.i64.wrap (x3+1);kc x1 x2 v10 x4 p8)
|false=>none)
|false=>k1 x4 x5)
theorem q128_5 (F177:zb7) (F178:zb6) (L5:M7):LEQ (Z7 L5) (e128 F177 F178 L5) Tryz.f128 (zdo F178):=fun _ _ _ _=>by kernel_rfl
def Nz:Nat→M7
 | 0=>fun _ _ _ _ _ _ _ _=>none
 | n+1=>fun R x1 x2 x3 x4 x5 k0 k1=>zdo F178 R x1 x2 x3 x4 x5 (fun x1 x2 x3 x4 x5=>Nz n R x1 x2 x3 x4 x5 k0 k1) k0 k1
def p128 (F177:zb7) (L5:M7):znt:=fun R a0 a1 k=>
F177 R a0 fun y1=>
(match (!y1) with
|true=>k ((List.replicate 8 (0:Int)),([]:LI),(0:Int),()) (1:Int)
|false=>let v2:=(a1.length:Int);L5 R a1 v2 (0:Int) ((List.replicate 8 (0:Int)),([]:LI),(0:Int),()) (a0,()) (fun x3 x4=>
k x4 x3) (fun x5 x6=>
k x6.1 (0:Int)))
theorem q128 (F177:zb7) (F178:zb6) (L5:M7):EQ (en128 (p128 F177 L5)) (e128 F177 F178 L5) Tryz.f128 [(.cell 4 203,203,false),(.tmp 5,38,false)]:=fun _ _ _=>by kernel_rfl
def F128:znt:=p128 F177 (Nz FUEL)
theorem zsr:LKP (Z7 (Nz FUEL)) 0 31 5 Tryz.f128:=ST.lok (q128_5 F177 F178 (Nz FUEL)) (Aa ok177 (Aa ok178 Ab)) [] trivial
theorem ok128:OKP (en128 F128):=ST.ok1 (q128 F177 F178 (Nz FUEL)) (Aa ok177 (Aa ok178 Ab)) Tryz.func128 [5] ⟨⟨_,rfl,zsr⟩,trivial⟩
abbrev znb:=(R:Type)→Int→(Int→Option R)→Option R
def en215 (F:znb):Ent:=eV 215 [(.int .u64)] [(.int .u64)] F
def p215:znb:=fun R a0 k=>
let v1:=decide (a0≥2305843009213693952);(match v1 with
|true=>k (0:Int)
|false=>let v2:=IntKind.u64.wrap (a0+8);let v3:=IntKind.u64.wrap (v2+64);let v4:=IntKind.u64.wrap (Int.tdiv v3 (64:Int));k v4)
theorem q215:EQ (en215 p215) (sE 0 9 [] [] []) Tryz.f215 [(.tmp 2,31,false)]:=fun _ _ _=>by kernel_rfl
def F215:znb:=p215
theorem ok215:OKP (en215 F215):=ST.ok0 q215 Ab Tryz.func215
abbrev znl:=(R:Type)→LI→Int→(LI→Bool→Option R)→Option R
def en180 (F:znl):Ent:=eV 180 [(.sl (.int .u8)),(.int .u64)] [(.sl (.int .u8)),.bool] F
def p180 (F92:FT92) (F215:znb):znl:=fun R a0 a1 k=>
let v1:=decide (a1≥2305843009213693952);(match v1 with
|true=>k ([]:LI) false
|false=>let v2:=(a0.length:Int);let v3:=IntKind.u64.wrap v2;let v4:=Int.tmod a1 (64:Int);let v5:=v3 !=v4;(match v5 with
|true=>k ([]:LI) false
|false=>F215 R a1 fun y6=>
let v7:=IntKind.u64.wrap (Int.tdiv a1 (64:Int));let v8:=IntKind.u64.wrap (y6 - v7);let v9:=IntKind.i64.wrap v8;let v10:=IntKind.i64.wrap (v9*64);(match (decide (0≤v10∧v10≤v10∧v10≤140737488355328)) with
|true=>let v11:=List.replicate v10.toNat (0:Int);let v12:=lay v11 0 (List.take (v11.length) a0);let v13:=(a0.length:Int);(match bnd v13 v12.length with
|true=>let v14:=v12.set v13.toNat (128:Int);let v15:=ishl .u64 a1 (3:Int);F92 R v15 fun y16=>
let v17:=IntKind.i64.wrap (v10 - 8);(match (decide (0≤v17∧v17≤(v14.length:Int)∧(v14.length:Int)≤(v14.length:Int)∧(v14.length:Int)≤(v14.length:Int))) with
|true=>let v18:=lay v14 v17.toNat (List.take (Int.toNat ((v14.length:Int) - v17)) (List.take 8 (List.drop 0 y16)));k v18 true
|false=>none)
|false=>none)
|false=>none)))
theorem q180 (F92:FT92) (F215:znb):EQ (en180 (p180 F92 F215)) (sE 0 45 [] [en92 F92,en215 F215] []) Tryz.f180 [(.tmp 4,25,false),(.tmp 5,4,false)]:=fun _ _ _=>by kernel_rfl
def F180:znl:=p180 F92 F215
theorem ok180:OKP (en180 F180):=ST.ok0 (q180 F92 F215) (Aa ok92 (Aa ok215 Ab)) Tryz.func180
abbrev znk:=(R:Type)→Tq34→(LI→Tq34→Option R)→Option R
def en182 (F:znk):Ent:=eM 182 [(true,Kq34)] [(false,(.arr 32 (.int .u8)))] F
abbrev zpu (Z:Type):=LI→Int→Tq34→LI→Z
abbrev zxd (R:Type):=(Tq34→LI→Option R)→Option R
abbrev Mw:=(R:Type)→zpu (zxd R)
def Zv (L:Mw):LEnt:=lM 2 [.fix 2 (.ptr 1 [] (.arr 32 (.int .u8))),.val 10 (.arr 8 (.int .u32)),.val 11 (.int .i64),.var 0 Kq34 false,.var 1 (.arr 32 (.int .u8)) false] 2 [(.exit 0,[.fix 2 (.ptr 1 [] (.arr 32 (.int .u8))),.var 0 Kq34 false,.var 1 (.arr 32 (.int .u8)) false])] L
def e182 (F192:Ob) (L2:Mw):=sE 1 24 [] [zk4 F192] [Zv L2]
def zii (F192:Ob) (R:Type):zpu (zpu (Option R)→zxd R):=fun x1 x2 x3 x4 kc k0=>
let v5:=decide (x2<8);(match v5 with
|true=>(match (bnd x2 (8:Int)) with
|true=>let v6:=x1.getD x2.toNat 0;F192 R v6 fun y7=>
let v8:=IntKind.i64.wrap ((4:Int)*x2);(match (decide (0≤v8∧v8≤(32:Int)∧(32:Int)≤(32:Int))) with
|true=>let v9:=lay x4 v8.toNat (List.take (Int.toNat ((32:Int) - v8)) (List.take 4 (List.drop 0 y7)));let v10:=IntKind.i64.wrap (x2+1);kc x1 v10 x3 v9
|false=>none)
|false=>none)
|false=>k0 x3 x4)
theorem q182_2 (F192:Ob) (L2:Mw):LEQ (Zv L2) (e182 F192 L2) Tryz.f182 (zii F192):=fun _ _ _ _=>by kernel_rfl
def Qk:Nat→Mw
 | 0=>fun _ _ _ _ _ _=>none
 | n+1=>fun R x1 x2 x3 x4 k0=>zii F192 R x1 x2 x3 x4 (fun x1 x2 x3 x4=>Qk n R x1 x2 x3 x4 k0) k0
def p182 (L2:Mw):znk:=fun R a0 k=>
L2 R a0.1.1 (0:Int) a0 (List.replicate 32 (0:Int)) (fun x1 x2=>
k x2 x1)
theorem q182 (F192:Ob) (L2:Mw):EQ (en182 (p182 L2)) (e182 F192 L2) Tryz.f182 [(.cell 2 24,24,false)]:=fun _ _ _=>by kernel_rfl
def F182:znk:=p182 (Qk FUEL)
theorem zse:LKP (Zv (Qk FUEL)) 1 24 2 Tryz.f182:=ST.lok (q182_2 F192 (Qk FUEL)) (Aa zrl Ab) [] trivial
theorem ok182:OKP (en182 F182):=ST.ok1 (q182 F192 (Qk FUEL)) (Aa zrl Ab) Tryz.func182 [2] ⟨⟨_,rfl,zse⟩,trivial⟩
abbrev znr:=(R:Type)→Tq33→(LI→Int→Option R)→Option R
def en130 (F:znr):Ent:=eV 130 [Kq33] [(.arr 32 (.int .u8)),(.int .i64)] F
def p130 (F180:znl) (F181:zb5) (F182:znk):znr:=fun R a0 k=>
F180 R a0.2.1 a0.2.2.1 fun y1 y2=>
(match (!y2) with
|true=>let v3:=List.replicate 32 (0:Int);k v3 (1:Int)
|false=>F181 R (a0,()) y1 fun y4 p5=>
F182 R p5 fun y6 p7=>
k y6 (0:Int))
theorem q130 (F180:znl) (F181:zb5) (F182:znk):EQ (en130 (p130 F180 F181 F182)) (sE 0 23 [] [en180 F180,zt2 F181,en182 F182] []) Tryz.f130 [(.cell 2 24,24,false),(.tmp 3,38,false)]:=fun _ _ _=>by kernel_rfl
def F130:znr:=p130 F180 F181 F182
theorem ok130:OKP (en130 F130):=ST.ok0 (q130 F180 F181 F182) (Aa ok180 (Aa ok181 (Aa ok182 Ab))) Tryz.func130
abbrev FT93:=(R:Type)→(List LI)→(LI→Option R)→Option R
def en93 (F:FT93):Ent:=eV 93 [(.sl (.sl (.int .u8)))] [(.arr 32 (.int .u8))] F
def p93 (F128:znt) (F129:zns) (F130:znr):FT93:=fun R a0 k=>
F129 R  fun y1=>
F128 R y1 a0 fun y2 y3=>
F130 R y2 fun y4 y5=>
k y4
theorem q93 (F128:znt) (F129:zns) (F130:znr):EQ (en93 (p93 F128 F129 F130)) (sE 0 19 [] [en128 F128,en129 F129,en130 F130] []) Tryz.f93 [(.cell 2 24,24,false)]:=fun _ _ _=>by kernel_rfl
def F93:FT93:=p93 F128 F129 F130
theorem ok93:OKP (en93 F93):=ST.ok0 (q93 F128 F129 F130) (Aa ok128 (Aa ok129 (Aa ok130 Ab))) Tryz.func93
abbrev zb9:=(R:Type)→LI→(LI→Option R)→Option R
def zt3 (F:zb9):Ent:=eV 166 [(.arr 32 (.int .u8))] [(.arr 32 (.int .u8))] F
def p166 (F93:FT93):zb9:=fun R a0 k=>
let v1:=([(List.take 32 (List.drop 0 a0))]:(List LI));F93 R v1 fun y2=>
k y2
theorem q166 (F93:FT93):EQ (zt3 (p166 F93)) (sE 0 6 [] [en93 F93] []) Tryz.f166 [(.cell 2 24,24,false)]:=fun _ _ _=>by kernel_rfl
def F166:zb9:=p166 F93
theorem ok166:OKP (zt3 F166):=ST.ok0 (q166 F93) (Aa ok93 Ab) Tryz.func166
abbrev zb0:=(R:Type)→Tq9→(Bool→Option R)→Option R
def en199 (F:zb0):Ent:=eV 199 [Kq9] [.bool] F
def p199 (F166:zb9):zb0:=fun R a0 k=>
(match a0.2.2.1 with
|true=>let v1:=decide (a0.1≥0);(match v1 with
|true=>F166 R a0.2.2.2.1 fun y2=>
let v3:=Kd.eqv (.arr 32 (.int .u8)) y2 a0.2.1;k v3
|false=>k false)
|false=>let v4:=decide (a0.1≥0);(match v4 with
|true=>let v5:=List.replicate 32 (0:Int);let v6:=Kd.eqv (.arr 32 (.int .u8)) a0.2.2.2.1 v5;k v6
|false=>k false))
theorem q199 (F166:zb9):EQ (en199 (p199 F166)) (sE 0 25 [] [zt3 F166] []) Tryz.f199 [(.tmp 2,4,false)]:=fun _ _ _=>by kernel_rfl
def F199:zb0:=p199 F166
theorem ok199:OKP (en199 F199):=ST.ok0 (q199 F166) (Aa ok166 Ab) Tryz.func199
abbrev Q4:=(R:Type)→(List Tq9)→(Bool→Option R)→Option R
def zk6 (F:Q4):Ent:=eV 161 [(.sl Kq9)] [.bool] F
abbrev zp1 (Z:Type):=(List Tq9)→(List Tq9)→Int→Int→Z
abbrev zxk (R:Type):=(Bool→Option R)→(Option R)→Option R
abbrev M1:=(R:Type)→zp1 (zxk R)
def Z2 (L:M1):LEnt:=lM 2 [.val 0 (.sl Kq9),.val 5 (.sl Kq9),.val 6 (.int .i64),.val 7 (.int .i64)] 0 [(.ret,[.val 2 .bool]),(.exit 0,[])] L
def e161 (F199:zb0) (L2:M1):=sE 0 31 [] [en199 F199] [Z2 L2]
def ziq (F199:zb0) (R:Type):zp1 (zp1 (Option R)→zxk R):=fun x1 x2 x3 x4 kc k0 k1=>
let v5:=decide (x4<x3);(match v5 with
|true=>(match bnd x4 x2.length with
|true=>let v6:=x2.getD x4.toNat (0,(List.replicate 32 0),false,(List.replicate 32 0),());F199 R v6 fun y7=>
(match (!y7) with
|true=>k0 false
|false=>let v8:=decide (x4>0);(match v8 with
|true=>let v9:=IntKind.i64.wrap (x4 - 1);(match bnd v9 x1.length with
|true=>let v10:=(x1.getD v9.toNat (0,(List.replicate 32 0),false,(List.replicate 32 0),())).1;let v11:=decide (v10≥v6.1);(match v11 with
|true=>k0 false
|false=>let v12:=IntKind.i64.wrap (x4+1);kc x1 x2 x3 v12)
|false=>none)
|false=>let v13:=IntKind.i64.wrap (x4+1);kc x1 x2 x3 v13))
|false=>none)
|false=>k1)
theorem q161_2 (F199:zb0) (L2:M1):LEQ (Z2 L2) (e161 F199 L2) Tryz.f161 (ziq F199):=fun _ _ _ _=>by kernel_rfl
def Qp:Nat→M1
 | 0=>fun _ _ _ _ _ _ _=>none
 | n+1=>fun R x1 x2 x3 x4 k0 k1=>ziq F199 R x1 x2 x3 x4 (fun x1 x2 x3 x4=>Qp n R x1 x2 x3 x4 k0 k1) k0 k1
def p161 (L2:M1):Q4:=fun R a0 k=>
let v1:=(a0.length:Int);L2 R a0 a0 v1 (0:Int) (fun x2=>
k x2) (k true)
theorem q161 (F199:zb0) (L2:M1):EQ (zk6 (p161 L2)) (e161 F199 L2) Tryz.f161 [(.tmp 2,4,false)]:=fun _ _ _=>by kernel_rfl
def F161:Q4:=p161 (Qp FUEL)
theorem zsl:LKP (Z2 (Qp FUEL)) 0 31 2 Tryz.f161:=ST.lok (q161_2 F199 (Qp FUEL)) (Aa ok199 Ab) [] trivial
theorem zzp:OKP (zk6 F161):=ST.ok1 (q161 F199 (Qp FUEL)) (Aa ok199 Ab) Tryz.func161 [2] ⟨⟨_,rfl,zsl⟩,trivial⟩
abbrev FT54:=(R:Type)→(List LI)→(LI→Option R)→Option R
def en54 (F:FT54):Ent:=eV 54 [(.sl (.arr 32 (.int .u8)))] [(.arr 32 (.int .u8))] F
abbrev D54_2 (Z:Type):=(List LI)→Int→Int→LI→Z
abbrev E54_2 (R:Type):=(LI→Option R)→Option R
abbrev P6:=(R:Type)→D54_2 (E54_2 R)
def zjx (L:P6):LEnt:=lM 2 [.fix 2 (.ptr 0 [] (.arr 32 (.int .u8))),.val 7 (.sl (.arr 32 (.int .u8))),.val 8 (.int .i64),.val 9 (.int .i64),.var 0 (.arr 32 (.int .u8)) false] 1 [(.exit 0,[.fix 2 (.ptr 0 [] (.arr 32 (.int .u8))),.var 0 (.arr 32 (.int .u8)) false])] L
abbrev D54_5 (Z:Type):=(List LI)→Int→Int→LI→Int→LI→Z
abbrev E54_5 (R:Type):=((List LI)→Int→Int→LI→Option R)→Option R
abbrev P5:=(R:Type)→D54_5 (E54_5 R)
def zjw (L:P5):LEnt:=lM 5 [.fix 2 (.ptr 0 [] (.arr 32 (.int .u8))),.val 7 (.sl (.arr 32 (.int .u8))),.val 8 (.int .i64),.val 9 (.int .i64),.val 13 (.arr 32 (.int .u8)),.val 14 (.int .i64),.var 0 (.arr 32 (.int .u8)) false] 1 [(.exit 2,[.fix 2 (.ptr 0 [] (.arr 32 (.int .u8))),.val 7 (.sl (.arr 32 (.int .u8))),.val 8 (.int .i64),.val 9 (.int .i64),.var 0 (.arr 32 (.int .u8)) false])] L
def e54 (L2:P6) (L5:P5):=sE 0 27 [] [] [zjx L2,zjw L5]
def zrc (R:Type):D54_5 (D54_5 (Option R)→E54_5 R):=fun x1 x2 x3 x4 x5 x6 kc k0=>
let v7:=decide (x5<32);(match v7 with
|true=>(match (bnd x5 (32:Int)) with
|true=>let v8:=x4.getD x5.toNat 0;(match (bnd x5 (32:Int)) with
|true=>let v9:=x6.getD x5.toNat 0;let v10:=ixor .u8 v9 v8;(match (bnd x5 (32:Int)) with
|true=>let v11:=x6.set x5.toNat v10;let v12:=IntKind.i64.wrap (x5+1);kc x1 x2 x3 x4 v12 v11
|false=>none)
|false=>none)
|false=>none)
|false=>k0 x1 x2 x3 x6)
theorem q54_5 (L2:P6) (L5:P5):LEQ (zjw L5) (e54 L2 L5) Tryz.f54 zrc:=fun _ _ _ _=>by kernel_rfl
def T7:Nat→P5
 | 0=>fun _ _ _ _ _ _ _ _=>none
 | n+1=>fun R x1 x2 x3 x4 x5 x6 k0=>zrc R x1 x2 x3 x4 x5 x6 (fun x1 x2 x3 x4 x5 x6=>T7 n R x1 x2 x3 x4 x5 x6 k0) k0
def zy2 (L5:P5) (R:Type):D54_2 (D54_2 (Option R)→E54_2 R):=fun x1 x2 x3 x4 kc k0=>
let v5:=decide (x3<x2);(match v5 with
|true=>(match bnd x3 x1.length with
|true=>let v6:=x1.getD x3.toNat (List.replicate 32 0);L5 R x1 x2 x3 v6 (0:Int) x4 (fun x7 x8 x9 x10=>
let v11:=IntKind.i64.wrap (x9+1);kc x7 x8 v11 x10)
|false=>none)
|false=>k0 x4)
theorem q54_2 (L2:P6) (L5:P5):LEQ (zjx L2) (e54 L2 L5) Tryz.f54 (zy2 L5):=fun _ _ _ _=>by kernel_rfl
def Xd:Nat→P6
 | 0=>fun _ _ _ _ _ _=>none
 | n+1=>fun R x1 x2 x3 x4 k0=>zy2 (T7 FUEL) R x1 x2 x3 x4 (fun x1 x2 x3 x4=>Xd n R x1 x2 x3 x4 k0) k0
def p54 (L2:P6):FT54:=fun R a0 k=>
let v1:=(a0.length:Int);L2 R a0 v1 (0:Int) (List.replicate 32 (0:Int)) (fun x2=>
k x2)
theorem q54 (L2:P6) (L5:P5):EQ (en54 (p54 L2)) (e54 L2 L5) Tryz.f54 [(.cell 2 24,24,false)]:=fun _ _ _=>by kernel_rfl
def F54:FT54:=p54 (Xd FUEL)
theorem lok54_5:LKP (zjw (T7 FUEL)) 0 27 5 Tryz.f54:=ST.lok (q54_5 (Xd FUEL) (T7 FUEL)) Ab [] trivial
theorem lok54_2:LKP (zjx (Xd FUEL)) 0 27 2 Tryz.f54:=ST.lok (q54_2 (Xd FUEL) (T7 FUEL)) Ab [5] ⟨⟨_,rfl,lok54_5⟩,trivial⟩
theorem ok54:OKP (en54 F54):=ST.ok1 (q54 (Xd FUEL) (T7 FUEL)) Ab Tryz.func54 [2] ⟨⟨_,rfl,lok54_2⟩,trivial⟩
abbrev zca:=(R:Type)→(List Tq9)→(LI→Option R)→Option R
def zt4 (F:zca):Ent:=eV 165 [(.sl Kq9)] [(.arr 32 (.int .u8))] F
abbrev zp0 (Z:Type):=(List Tq9)→Int→Int→LI→Z
abbrev zxj (R:Type):=(LI→Option R)→Option R
abbrev M0:=(R:Type)→zp0 (zxj R)
def Z1 (L:M0):LEnt:=lM 2 [.fix 2 (.ptr 0 [] (.arr 32 (.int .u8))),.val 5 (.sl Kq9),.val 6 (.int .i64),.val 7 (.int .i64),.var 0 (.arr 32 (.int .u8)) false] 1 [(.exit 0,[.fix 2 (.ptr 0 [] (.arr 32 (.int .u8))),.var 0 (.arr 32 (.int .u8)) false])] L
def e165 (F54:FT54) (L2:M0):=sE 0 20 [] [en54 F54] [Z1 L2]
def zio (F54:FT54) (R:Type):zp0 (zp0 (Option R)→zxj R):=fun x1 x2 x3 x4 kc k0=>
let v5:=decide (x3<x2);(match v5 with
|true=>(match bnd x3 x1.length with
|true=>let v6:=x1.getD x3.toNat (0,(List.replicate 32 0),false,(List.replicate 32 0),());(match v6.2.2.1 with
|true=>let v7:=([x4,v6.2.2.2.1]:(List LI));F54 R v7 fun y8=>
let v9:=IntKind.i64.wrap (x3+1);kc x1 x2 v9 y8
|false=>let v10:=IntKind.i64.wrap (x3+1);kc x1 x2 v10 x4)
|false=>none)
|false=>k0 x4)
theorem q165_2 (F54:FT54) (L2:M0):LEQ (Z1 L2) (e165 F54 L2) Tryz.f165 (zio F54):=fun _ _ _ _=>by kernel_rfl
def Qo:Nat→M0
 | 0=>fun _ _ _ _ _ _=>none
 | n+1=>fun R x1 x2 x3 x4 k0=>zio F54 R x1 x2 x3 x4 (fun x1 x2 x3 x4=>Qo n R x1 x2 x3 x4 k0) k0
def p165 (L2:M0):zca:=fun R a0 k=>
let v1:=(a0.length:Int);L2 R a0 v1 (0:Int) (List.replicate 32 (0:Int)) (fun x2=>
k x2)
theorem q165 (F54:FT54) (L2:M0):EQ (zt4 (p165 L2)) (e165 F54 L2) Tryz.f165 [(.cell 2 24,24,false)]:=fun _ _ _=>by kernel_rfl
def F165:zca:=p165 (Qo FUEL)
theorem zsk:LKP (Z1 (Qo FUEL)) 0 20 2 Tryz.f165:=ST.lok (q165_2 F54 (Qo FUEL)) (Aa ok54 Ab) [] trivial
theorem ok165:OKP (zt4 F165):=ST.ok1 (q165 F54 (Qo FUEL)) (Aa ok54 Ab) Tryz.func165 [2] ⟨⟨_,rfl,zsk⟩,trivial⟩
abbrev zcc:=(R:Type)→Tq24→(Bool→Option R)→Option R
def zt6 (F:zcc):Ent:=eV 160 [Kq24] [.bool] F
def p160 (F161:Q4) (F165:zca):zcc:=fun R a0 k=>
F161 R a0.2.2.2.1 fun y1=>
(match y1 with
|true=>F165 R a0.2.2.2.1 fun y2=>
let v3:=Kd.eqv (.arr 32 (.int .u8)) y2 a0.2.2.1;k v3
|false=>k false)
theorem q160 (F161:Q4) (F165:zca):EQ (zt6 (p160 F161 F165)) (sE 0 14 [] [zk6 F161,zt4 F165] []) Tryz.f160 [(.tmp 2,4,false)]:=fun _ _ _=>by kernel_rfl
def F160:zcc:=p160 F161 F165
theorem ok160:OKP (zt6 F160):=ST.ok0 (q160 F161 F165) (Aa zzp (Aa ok165 Ab)) Tryz.func160
abbrev zcl:=(R:Type)→Tq24→Int→Int→(Int→Option R)→Option R
def zug (F:zcl):Ent:=eV 115 [Kq24,(.int .i64),(.int .i64)] [(.int .i64)] F
def p115 (F160:zcc):zcl:=fun R a0 a1 a2 k=>
F160 R a0 fun y1=>
(match (!y1) with
|true=>k (1:Int)
|false=>let v2:=a1 !=a2;(match v2 with
|true=>k (7:Int)
|false=>k (0:Int)))
theorem q115 (F160:zcc):EQ (zug (p115 F160)) (sE 0 15 [] [zt6 F160] []) Tryz.f115 [(.tmp 6,38,false)]:=fun _ _ _=>by kernel_rfl
def F115:zcl:=p115 F160
theorem ok115:OKP (zug F115):=ST.ok0 (q115 F160) (Aa ok160 Ab) Tryz.func115
abbrev zm9:=(R:Type)→Int→(Bool→Option R)→Option R
def en227 (F:zm9):Ent:=eV 227 [(.int .i64)] [.bool] F
def p227:zm9:=fun R a0 k=>
let v1:=a0 !=a0;k v1
theorem q227:EQ (en227 p227) (sE 0 6 [] [] []) Tryz.f227 [(.tmp 2,4,false)]:=fun _ _ _=>by kernel_rfl
def F227:zm9:=p227
theorem ok227:OKP (en227 F227):=ST.ok0 q227 Ab Tryz.func227
abbrev zni:=(R:Type)→Int→Int→(Int→Option R)→Option R
def en202 (F:zni):Ent:=eV 202 [(.int .i64),(.int .i64)] [(.int .i64)] F
def p202 (F227:zm9):zni:=fun R a0 a1 k=>
F227 R a0 fun y1=>
F227 R a1 fun y2=>
(match y1 with
|true=>(match y2 with
|true=>k (0:Int)
|false=>k (-1:Int))
|false=>(match y2 with
|true=>k (1:Int)
|false=>let v3:=decide (a0<a1);(match v3 with
|true=>k (-1:Int)
|false=>let v4:=decide (a0>a1);(match v4 with
|true=>k (1:Int)
|false=>k (0:Int)))))
theorem q202 (F227:zm9):EQ (en202 (p202 F227)) (sE 0 20 [] [en227 F227] []) Tryz.f202 [(.tmp 4,3,false)]:=fun _ _ _=>by kernel_rfl
def F202:zni:=p202 F227
theorem ok202:OKP (en202 F202):=ST.ok0 (q202 F227) (Aa ok227 Ab) Tryz.func202
abbrev Xy:=(R:Type)→Tq9→Int→(Int→Option R)→Option R
def en201 (F:Xy):Ent:=eV 201 [Kq9,(.int .i64)] [(.int .i64)] F
def p201 (F202:zni):Xy:=fun R a0 a1 k=>
F202 R a0.1 a1 fun y1=>
k y1
theorem q201 (F202:zni):EQ (en201 (p201 F202)) (sE 0 9 [] [en202 F202] []) Tryz.f201 [(.tmp 4,3,false)]:=fun _ _ _=>by kernel_rfl
def F201:Xy:=p201 F202
theorem ok201:OKP (en201 F201):=ST.ok0 (q201 F202) (Aa ok202 Ab) Tryz.func201
abbrev Hk:Type 1:=(R:Type)→(List Tq9)→Int→(Int→Bool→Option R)→Option R
def Ga (F:Hk):EntF:=⟨200,201,[(false,(.sl Kq9)),(false,(.int .i64))],[(false,(.int .i64)),(false,.bool)],fun R x k=>F R x.1 x.2.1 (fun y1 y2=>k (y1,y2,()) ())⟩
def Vf:List (ResultVar×TypeId×Bool):=[(.tmp 6,3,false),(.tmp 7,4,false)]
abbrev Fm:Type 1:=(R:Type)→(List Tq9)→Int→Int→Int→Int→((List Tq9)→Int→Int→Int→Option R)→Option R
def Bo (L:Fm):LEnt:=⟨3,[.val 0 (.sl Kq9),.val 1 (.int .i64),.fix 2 (.fn 201),.val 8 (.int .i64),.val 9 (.int .i64),.val 10 (.int .i64)],0,[(.exit 0,[.val 0 (.sl Kq9),.val 1 (.int .i64),.fix 2 (.fn 201),.val 8 (.int .i64),.val 9 (.int .i64)])],fun R x ke=>L R x.1 x.2.1 x.2.2.1 x.2.2.2.1 x.2.2.2.2.1 (fun y1 y2 y3 y4=>ke.1 (y1,y2,y3,y4,()))⟩
def Pm (F201:Xy) (L3:Fm) (R:Type):Env R:=⟨TT,EQT,0,49,Bm [],Bd [en201 F201] R,Bl [Bo L3] R,[],Bc [],[],fun _ _ _ _=>none⟩
def Kv (F201:Xy):(R:Type)→(List Tq9)→Int→Int→Int→Int→((List Tq9)→Int→Int→Int→Int→Option R)→((List Tq9)→Int→Int→Int→Option R)→Option R:=fun R x1 x2 x3 x4 x5 kc k0=>
let v6:=decide (x4<x5);(match v6 with
|true=>let v7:=IntKind.i64.wrap (x4+x5);let v8:=IntKind.u64.wrap v7;let v9:=ishr .u64 v8 (1:Int);let v10:=IntKind.i64.wrap v9;(match bnd v10 x1.length with
|true=>let v11:=x1.getD v10.toNat (0,(List.replicate 32 0),false,(List.replicate 32 0),());F201 R v11 x2 fun y12=>
let v13:=decide (y12<0);(match v13 with
|true=>let v14:=IntKind.i64.wrap (v10+1);kc x1 x2 x3 v14 x5
|false=>kc x1 x2 x3 x4 v10)
|false=>none)
|false=>k0 x1 x2 x3 x4)
theorem zhu (F201:Xy) (L3:Fm) (R:Type) (x:HT (Bo L3).H) (kc:HT (Bo L3).H→Option R) (ke:KT R (Bo L3).exs):
 exec (Pm F201 L3 R) (Cd 3 (Ag Tryz.f200)) (stOf (Bo L3).H x 0) (Ni (Bo L3).H (Bo L3).exs kc ke)=
  Kv F201 R x.1 x.2.1 x.2.2.1 x.2.2.2.1 x.2.2.2.2.1 (fun x1 x2 x3 x4 x5=>kc (x1,x2,x3,x4,x5,())) (fun y1 y2 y3 y4=>ke.1 (y1,y2,y3,y4,())):=by kernel_rfl
def Bf:Nat→Fm
 | 0=>fun _ _ _ _ _ _ _=>none
 | n+1=>fun R x1 x2 x3 x4 x5 k0=>Kv F201 R x1 x2 x3 x4 x5 (fun x1 x2 x3 x4 x5=>Bf n R x1 x2 x3 x4 x5 k0) k0
def Yx (F201:Xy) (L3:Fm):Hk:=fun R a0 a1 k=>
let v1:=(a0.length:Int);L3 R a0 a1 v1 (0:Int) v1 (fun x2 x3 x4 x5=>
let v6:=decide (x5<x4);(match v6 with
|true=>(match bnd x5 x2.length with
|true=>let v7:=x2.getD x5.toNat (0,(List.replicate 32 0),false,(List.replicate 32 0),());F201 R v7 x3 fun y8=>
let v9:=y8==0;k x5 v9
|false=>none)
|false=>k x5 false))
theorem zyg (F201:Xy) (L3:Fm) (F:Hk) (R:Type) (x:AT (Ga F).ins) (k:RT (Ga F).outs→PT (Ga F).ins→Option R):
 xfun (Pm F201 L3 R) (Ag Tryz.f200) Vf (avs (Ga F).ins x++[AV.fn 201]) (finK (Ga F).outs (Ga F).ins k)=Yx F201 L3 R x.1 x.2.1 (fun y1 y2=>k (y1,y2,()) ()):=by kernel_rfl
def Eb:Hk:=Yx F201 (Bf FUEL)
theorem Wf (R:Type):Az Tryz.prog (Pm F201 (Bf FUEL) R):=⟨tabOK,eqOK,Aq (Aa ok201 Ab),Bw,Ak,noYl⟩
def Ik:(R:Type)→HT (Bo (Bf FUEL)).H→(HT (Bo (Bf FUEL)).H→Option R)→KT R (Bo (Bf FUEL)).exs→Option R:=fun R x kc ke=>Kv F201 R x.1 x.2.1 x.2.2.1 x.2.2.2.1 x.2.2.2.2.1 (fun x1 x2 x3 x4 x5=>kc (x1,x2,x3,x4,x5,())) (fun y1 y2 y3 y4=>ke.1 (y1,y2,y3,y4,()))
theorem zfx:∀(n:Nat) (R:Type) (x:HT (Bo (Bf FUEL)).H) (ke:KT R (Bo (Bf FUEL)).exs),iter Ik n R x ke=Bf n R x.1 x.2.1 x.2.2.1 x.2.2.2.1 x.2.2.2.2.1 (fun y1 y2 y3 y4=>ke.1 (y1,y2,y3,y4,())):=by
 intro n
 induction n with
 | zero=>intro R x ke; rfl
 | succ n ih=>
  intro R x ke;show Ik R x (fun x'=>iter Ik n R x' ke) ke=_
  rw [show (fun x'=>iter Ik n R x' ke)=fun x=>Bf n R x.1 x.2.1 x.2.2.1 x.2.2.2.1 x.2.2.2.2.1 (fun y1 y2 y3 y4=>ke.1 (y1,y2,y3,y4,())) from funext fun x'=>ih R x' ke];rfl
theorem Za:(Bo (Bf FUEL)).OK Tryz.prog 0 49 (Cd 3 (Ag Tryz.f200)):=⟨⟨fun _ h=>(by cases h),by kernel_rfl⟩,fun R x ke r h=>
 D9 (fun R=>Pm F201 (Bf FUEL) R) 0 49 (fun _=>rfl) (fun _=>rfl) (fun R=>Wf R) mixed (by
  intro R;rw [show Am (Cd 3 (Ag Tryz.f200))=[] from by kernel_rfl];exact Bx) (fun _ h=>(by cases h)) (K0 (by kernel_rfl)) (T:=Ik) (fun R x kc ke=>zhu F201 (Bf FUEL) R x kc ke) FUEL R x ke r ((zfx FUEL R x ke).trans h)⟩
theorem zrj:(Ga Eb).OK Tryz.prog:=
 Jy (Ef:=fun R=>Pm F201 (Bf FUEL) R) (fun R=>Wf R) mixed Tryz.func200 (body:=Ag Tryz.f200) (by kernel_rfl) (by kernel_rfl) (np:=0) (nt:=49) (fun _=>rfl) (fun _=>rfl) (by kernel_rfl) (res:=Vf) (by kernel_rfl) (fun _=>rfl) (fun _=>Nat.le_of_ble_eq_true rfl) (by
  intro R;rw [show Am (Ag Tryz.f200)=[Cd 3 (Ag Tryz.f200)] from by kernel_rfl];exact (Ah (Hb (e:=Bo (Bf FUEL)) rfl rfl Za) Bx)) (fun R x k=>zyg F201 (Bf FUEL) Eb R x k)
abbrev X3:=(R:Type)→(List Tq9)→Int→(Int→Bool→Option R)→Option R
def zt5 (F:X3):Ent:=eV 162 [(.sl Kq9),(.int .i64)] [(.int .i64),.bool] F
def e162 (Eb:Hk) (R:Type):Env R:=⟨TT,EQT,0,11,Bm [],E6 [Ga Eb] [] R,Bl [] R,[],Bc [],[],fun _ _ _ _=>none⟩
def p162 (Eb:Hk):X3:=fun R a0 a1 k=>
Eb R a0 a1 fun y1 y2=>
k y1 y2
theorem q162 (Eb:Hk):EQ (zt5 (p162 Eb)) (e162 Eb) Tryz.f162 [(.tmp 4,3,false),(.tmp 5,4,false)]:=fun _ _ _=>by kernel_rfl
def F162:X3:=p162 Eb
theorem env162 (R:Type):Az Tryz.prog (e162 Eb R):=⟨tabOK,eqOK,C0 (F4 zrj Fc) Ab,Bw,Ak,noYl⟩
theorem ok162:OKP (zt5 F162):=ST.ok3 (q162 Eb) env162 Tryz.func162 (fun _=>rfl) (fun _=>rfl) (fun _=>rfl) [] trivial
abbrev zcb:Type 1:=(R:Type)→(List Tq9)→((List Tq9)→Option R)→Option R
def en164 (F:zcb):Ent:=⟨164,[(false,(.sl Kq9))],[(true,Kq9)],fun R x k=>F R x.1 (fun y1=>k (y1,()) ())⟩
def e164:Env (RT [(true,Kq9)]):=⟨TT,EQT,0,8,Bm [(2,0),(3,0)],fun _ _ _=>none,fun _ _ _=>none,[],Bc [],[],fun _ _ _ _=>none⟩
def F164:zcb:=fun R a0 k=>match decide (List.length ([]:(List Tq9))+a0.length≤1759218604441) with | true=>k a0 | false=>none
theorem ok164:(en164 F164).OK Tryz.prog:=
 I6 (e:=Kq9) e164 ⟨tabOK,eqOK,(fun f b K r h=>by cases h),Bw,Ak,noYl⟩ mixed Tryz.func164 (body:=Ag Tryz.f164) (by kernel_rfl) (by kernel_rfl) (by kernel_rfl) (res:=[(.tmp 2,32,true)]) (by kernel_rfl) rfl (by decide) (by kernel_rfl) (lim:=1759218604441) (by kernel_rfl) (fun l=>by kernel_rfl)
def zvb:Go.Shelf.Ren:=⟨fun n=>match n with | 22=>163 | 29=>203 | _=>204,fun n=>match n with | 3=>3 | 4=>4 | 9=>68 | 24=>32 | _=>0,fun n=>n⟩
theorem insL163:InsL Tryz.prog zvb Tryz.f163:=⟨mixed,Tryz.func163,⟨Tryz.f163.name,Tryz.f163.targs,Tryz.f163.params,Tryz.f163.resultTypes,Tryz.f163.file,Tryz.f163.tmpNames,by kernel_rfl⟩,Tryz.underlying3,Tryz.underlying4,Tryz.underlying32⟩
theorem ok163:T5 Tryz.prog 163 Kq9 1759218604441:=
 ins_ok (ρ:=zvb) tabOK insL163 (by kernel_rfl) (by decide) (by kernel_rfl) (by kernel_rfl) (dd:=(Hu TT 68).get (by kernel_rfl)) (by kernel_rfl) (fo:=Tryz.f203) Tryz.func203 (by kernel_rfl) (by kernel_rfl) (by kernel_rfl) (by kernel_rfl) (by kernel_rfl) (by decide)
abbrev znz:=(R:Type)→(List Tq9)→Int→LI→((List Tq9)→Int→Option R)→Option R
def en116 (F:znz):Ent:=eV 116 [(.sl Kq9),(.int .i64),(.arr 32 (.int .u8))] [(.sl Kq9),(.int .i64)] F
def e116 (F161:Q4) (F162:X3) (F164:zcb) (R:Type):Env R:=⟨TT,EQT,0,32,Bm [(6,7)],Bd [zk6 F161,zt5 F162,en164 F164] R,Bl [] R,[(163,Kq9,1759218604441)],Bc [],[],fun _ _ _ _=>none⟩
def p116 (F161:Q4) (F162:X3) (F164:zcb):znz:=fun R a0 a1 a2 k=>
let v1:=decide (a1<0);(match v1 with
|true=>k ([]:(List Tq9)) (1:Int)
|false=>F161 R a0 fun y2=>
(match (!y2) with
|true=>k ([]:(List Tq9)) (1:Int)
|false=>F162 R a0 a1 fun y3 y4=>
(match y4 with
|true=>k ([]:(List Tq9)) (6:Int)
|false=>F164 R a0 fun y5=>
let v6:=([(a1,a2,false,(List.replicate 32 (0:Int)),())]:(List Tq9));(match (decide (0≤y3∧y3≤(y5.length:Int)∧y5.length+v6.length≤1759218604441)) with
|true=>let v7:=List.take y3.toNat y5++v6++List.drop y3.toNat y5;k v7 (0:Int)
|false=>none))))
theorem q116 (F161:Q4) (F162:X3) (F164:zcb):EQ (en116 (p116 F161 F162 F164)) (e116 F161 F162 F164) Tryz.f116 [(.tmp 6,32,false),(.tmp 7,38,false)]:=fun _ _ _=>by kernel_rfl
def F116:znz:=p116 F161 F162 F164
theorem env116 (R:Type):Az Tryz.prog (e116 F161 F162 F164 R):=⟨tabOK,eqOK,Aq (Aa zzp (Aa ok162 (Aa ok164 Ab))),zvi ok163,Ak,noYl⟩
theorem ok116:OKP (en116 F116):=ST.ok3 (q116 F161 F162 F164) env116 Tryz.func116 (fun _=>rfl) (fun _=>rfl) (fun _=>rfl) [] trivial
abbrev zck:=(R:Type)→Tq24→(List Tq9)→Int→(Tq24→Int→Option R)→Option R
def zuf (F:zck):Ent:=eV 117 [Kq24,(.sl Kq9),(.int .i64)] [Kq24,(.int .i64)] F
def p117 (F165:zca):zck:=fun R a0 a1 a2 k=>
let v1:=a2 !=0;(match v1 with
|true=>k ((0:Int),(List.replicate 32 (0:Int)),(List.replicate 32 (0:Int)),([]:(List Tq9)),()) a2
|false=>F165 R a1 fun y2=>
k (a0.1,a0.2.1,y2,a1,a0.2.2.2.2) (0:Int))
theorem q117 (F165:zca):EQ (zuf (p117 F165)) (sE 0 18 [] [zt4 F165] []) Tryz.f117 [(.cell 6 34,34,false),(.tmp 7,38,false)]:=fun _ _ _=>by kernel_rfl
def F117:zck:=p117 F165
theorem ok117:OKP (zuf F117):=ST.ok0 (q117 F165) (Aa ok165 Ab) Tryz.func117
abbrev FT73:=(R:Type)→Tq24→Int→Int→LI→(Tq24→Int→Option R)→Option R
def en73 (F:FT73):Ent:=eV 73 [Kq24,(.int .i64),(.int .i64),(.arr 32 (.int .u8))] [Kq24,(.int .i64)] F
def p73 (F115:zcl) (F116:znz) (F117:zck):FT73:=fun R a0 a1 a2 a3 k=>
F115 R a0 a1 (1:Int) fun y1=>
let v2:=y1 !=0;(match v2 with
|true=>k ((0:Int),(List.replicate 32 (0:Int)),(List.replicate 32 (0:Int)),([]:(List Tq9)),()) y1
|false=>F116 R a0.2.2.2.1 a2 a3 fun y3 y4=>
F117 R a0 y3 y4 fun y5 y6=>
k y5 y6)
theorem q73 (F115:zcl) (F116:znz) (F117:zck):EQ (en73 (p73 F115 F116 F117)) (sE 0 34 [] [zug F115,en116 F116,zuf F117] []) Tryz.f73 [(.cell 8 34,34,false),(.tmp 9,38,false)]:=fun _ _ _=>by kernel_rfl
def F73:FT73:=p73 F115 F116 F117
theorem ok73:OKP (en73 F73):=ST.ok0 (q73 F115 F116 F117) (Aa ok115 (Aa ok116 (Aa ok117 Ab))) Tryz.func73
abbrev Kg:Type 1:=(R:Type)→Tq31→Tq6→(Int→Tq31→Option R)→Option R
def Ib (F:Kg):EntF:=⟨72,73,[(true,Kq31),(false,Kq6)],[(false,(.int .i64))],fun R x k=>F R x.1 x.2.1 (fun y1 p1=>k (y1,()) (p1,()))⟩
def zdg:List (ResultVar×TypeId×Bool):=[(.tmp 6,38,false)]
def zlc (F73:FT73) (F113:Qv) (F114:Uf) (R:Type):Env R:=⟨TT,EQT,1,45,Bm [],Bd [en73 F73,zla F113,zuh F114] R,Bl [] R,[],Bc [],[],fun _ _ _ _=>none⟩
def zh3 (F73:FT73) (F113:Qv) (F114:Uf):Kg:=fun R a0 a1 k=>
F113 R a0 a1.2.1 fun y1 p2=>
let v3:=y1 !=0;(match v3 with
|true=>k y1 p2
|false=>F114 R p2.1.1 p2.1.2.1 fun y4=>
F73 R p2.1.2.2.2.1 y4 a1.2.1 a1.2.2.2.1 fun y5 y6=>
k y6 ((p2.1.1,p2.1.2.1,p2.1.2.2.1,y5,p2.1.2.2.2.2),p2.2))
theorem q73073 (F73:FT73) (F113:Qv) (F114:Uf) (F:Kg) (R:Type) (x:AT (Ib F).ins) (k:RT (Ib F).outs→PT (Ib F).ins→Option R):
 xfun (zlc F73 F113 F114 R) (Ag Tryz.f72) zdg (avs (Ib F).ins x++[AV.fn 73]) (finK (Ib F).outs (Ib F).ins k)=zh3 F73 F113 F114 R x.1 x.2.1 (fun y1 p1=>k (y1,()) (p1,())):=by kernel_rfl
def G3:Kg:=zh3 F73 F113 F114
theorem ztj (R:Type):Az Tryz.prog (zlc F73 F113 F114 R):=⟨tabOK,eqOK,Aq (Aa ok73 (Aa zzv (Aa ok114 Ab))),Bw,Ak,noYl⟩
theorem zze:(Ib G3).OK Tryz.prog:=
 Jy (Ef:=fun R=>zlc F73 F113 F114 R) (fun R=>ztj R) mixed Tryz.func72 (body:=Ag Tryz.f72) (by kernel_rfl) (by kernel_rfl) (np:=1) (nt:=45) (fun _=>rfl) (fun _=>rfl) (by kernel_rfl) (res:=zdg) (by kernel_rfl) (fun _=>rfl) (fun _=>Nat.le_of_ble_eq_true rfl) (by
  intro R;rw [show Am (Ag Tryz.f72)=[] from by kernel_rfl];exact Bx) (fun R x k=>q73073 F73 F113 F114 G3 R x k)
abbrev FT71:=(R:Type)→Tq31→Tq6→(Int→Tq31→Option R)→Option R
def en71 (F:FT71):Ent:=eM 71 [(true,Kq31),(false,Kq6)] [(false,(.int .i64))] F
def e71 (G3:Kg) (R:Type):Env R:=⟨TT,EQT,1,8,Bm [],E6 [Ib G3] [] R,Bl [] R,[],Bc [],[],fun _ _ _ _=>none⟩
def p71 (G3:Kg):FT71:=fun R a0 a1 k=>
G3 R a0 a1 fun y1 p2=>
k y1 p2
theorem q71 (G3:Kg):EQ (en71 (p71 G3)) (e71 G3) Tryz.f71 [(.tmp 4,38,false)]:=fun _ _ _=>by kernel_rfl
def F71:FT71:=p71 G3
theorem env71 (R:Type):Az Tryz.prog (e71 G3 R):=⟨tabOK,eqOK,C0 (F4 zze Fc) Ab,Bw,Ak,noYl⟩
theorem ok71:OKP (en71 F71):=ST.ok3 (q71 G3) env71 Tryz.func71 (fun _=>rfl) (fun _=>rfl) (fun _=>rfl) [] trivial
end Go.PG
end
