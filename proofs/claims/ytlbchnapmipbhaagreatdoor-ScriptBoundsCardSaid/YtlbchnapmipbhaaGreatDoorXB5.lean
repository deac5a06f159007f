/- A part of the proof over this seat (own work; the framework that reads a Go function as a pure one, or a use of it). No condition of its own. -/
import Derived.Test.YtlbchnapmipbhaaGreatDoorXB4
import Derived.Shelf.Strings.Builder1
import Derived.Shelf.Strings.Builder2
import Derived.Shelf.Strings.OnBuilder
import Derived.Shelf.Strconv.Itoa1
import Derived.Shelf.LaysM
import Derived.Shelf.Strconv.Itoa2
import Derived.Shelf.Strconv.Itoa3
import Derived.WalkKit
import Derived.BigCall
import Derived.Test.YtlbchnapmipbhaaGreatDoorProg
import Derived.Lib.Walk
import Derived.Lib.ItoaMem
import Derived.Lib.AppendIntMem
import Derived.BigGuard
import Derived.KernelRfl
set_option linter.unusedVariables false
set_option linter.unusedSimpArgs false
set_option linter.unusedSectionVars false
noncomputable section
namespace Go.Proofs
open Go.Shelf
def Tryz.lays169_ren:Go.Shelf.Ren:=⟨fun | 169=>44 | n=>n,fun | 70=>82 | 9=>9 | 0=>0 | 72=>84 | 37=>25 | 127=>118 | 3=>3 | 5=>5 | n=>n,fun | n=>n⟩
theorem Tryz.lays169:Go.Proofs.Lays.n169 Tryz.prog Tryz.lays169_ren:={
 mixed:=by kernel_rfl
 f169:=Tryz.func44.trans (congrArg some (by kernel_rfl))
 t0:=Tryz.underlying0
 a0:=Tryz.isAgg0
 z0:=Tryz.sizeOf0
 v0:=Tryz.zeroValue0
 t3:=Tryz.underlying3
 a3:=Tryz.isAgg3
 z3:=Tryz.sizeOf3
 v3:=Tryz.zeroValue3
 t9:=Tryz.underlying9
 a9:=Tryz.isAgg9
 z9:=Tryz.sizeOf9
 v9:=Tryz.zeroValue9
 t37:=Tryz.underlying25
 a37:=Tryz.isAgg25
 z37:=Tryz.sizeOf25
 v37:=Tryz.zeroValue25
 t70:=Tryz.underlying82
 a70:=Tryz.isAgg82
 z70:=Tryz.sizeOf82
 v70:=Tryz.zeroValue82
 t72:=Tryz.underlying84
 a72:=Tryz.isAgg84
 z72:=Tryz.sizeOf84
 v72:=Tryz.zeroValue84
 t127:=Tryz.underlying118
 a127:=Tryz.isAgg118
 z127:=Tryz.sizeOf118
 v127:=Tryz.zeroValue118}
theorem Tryz.Builder_Extra_169:Builder.Extra Tryz.prog Tryz.lays169_ren:={
 sizeBuilder:=by kernel_rfl
 liesBuilder:=by kernel_rfl
 t5:=Tryz.underlying5
 a5:=Tryz.isAgg5
 z5:=Tryz.sizeOf5
 v5:=Tryz.zeroValue5
 infoByte:=by kernel_rfl
 cellsByte:=by kernel_rfl
 sizeByte:=by kernel_rfl
 neB5:=by decide}
open Go.RowKit in
theorem Tryz.Builder_String_any (B b:Nat) (l:List UInt8) (w:World) (h:Lib.IsBuilder 84 5 B b (Lib.byteCells l) w) (hBw:B≤w.heap.size):
  Calls Tryz.prog 44 #[.pointer (some ⟨b,0,none⟩)] w fun e w'=>e=.returned (.string ⟨l.toArray⟩)∧Below B w w':=Any.Builder_String_any Tryz.lays169 Tryz.Builder_Extra_169 B b l w h hBw
def Tryz.lays156_ren:Go.Shelf.Ren:=⟨fun | 156=>39 | 167=>67 | 165=>65 | 166=>43 | 169=>44 | 240=>68 | 241=>92 | 276=>97 | 277=>140 | n=>n,fun | 31=>81 | 9=>9 | 3=>3 | 4=>4 | 0=>0 | 20=>20 | 72=>84 | 76=>87 | 70=>82 | 37=>25 | 75=>86 | 127=>118 | 164=>166 | 5=>5 | 80=>89 | n=>n,fun | n=>n⟩
theorem Tryz.lays156:Go.Proofs.Lays.n156 Tryz.prog Tryz.lays156_ren:={
 mixed:=by kernel_rfl
 f156:=Tryz.func39.trans (congrArg some (by kernel_rfl))
 f165:=Tryz.func65.trans (congrArg some (by kernel_rfl))
 f166:=Tryz.func43.trans (congrArg some (by kernel_rfl))
 f169:=Tryz.func44.trans (congrArg some (by kernel_rfl))
 f240:=Tryz.func68.trans (congrArg some (by kernel_rfl))
 f241:=Tryz.func92.trans (congrArg some (by kernel_rfl))
 f276:=Tryz.func97.trans (congrArg some (by kernel_rfl))
 f277:=Tryz.func140.trans (congrArg some (by kernel_rfl))
 t0:=Tryz.underlying0
 a0:=Tryz.isAgg0
 z0:=Tryz.sizeOf0
 v0:=Tryz.zeroValue0
 t3:=Tryz.underlying3
 a3:=Tryz.isAgg3
 z3:=Tryz.sizeOf3
 v3:=Tryz.zeroValue3
 t4:=Tryz.underlying4
 a4:=Tryz.isAgg4
 z4:=Tryz.sizeOf4
 v4:=Tryz.zeroValue4
 t9:=Tryz.underlying9
 a9:=Tryz.isAgg9
 z9:=Tryz.sizeOf9
 v9:=Tryz.zeroValue9
 t20:=Tryz.underlying20
 a20:=Tryz.isAgg20
 z20:=Tryz.sizeOf20
 v20:=Tryz.zeroValue20
 t31:=Tryz.underlying81
 a31:=Tryz.isAgg81
 z31:=Tryz.sizeOf81
 v31:=Tryz.zeroValue81
 t37:=Tryz.underlying25
 a37:=Tryz.isAgg25
 z37:=Tryz.sizeOf25
 v37:=Tryz.zeroValue25
 t70:=Tryz.underlying82
 a70:=Tryz.isAgg82
 z70:=Tryz.sizeOf82
 v70:=Tryz.zeroValue82
 t72:=Tryz.underlying84
 a72:=Tryz.isAgg84
 z72:=Tryz.sizeOf84
 v72:=Tryz.zeroValue84
 t75:=Tryz.underlying86
 a75:=Tryz.isAgg86
 z75:=Tryz.sizeOf86
 v75:=Tryz.zeroValue86
 t76:=Tryz.underlying87
 a76:=Tryz.isAgg87
 z76:=Tryz.sizeOf87
 v76:=Tryz.zeroValue87
 t127:=Tryz.underlying118
 a127:=Tryz.isAgg118
 z127:=Tryz.sizeOf118
 v127:=Tryz.zeroValue118
 t164:=Tryz.underlying166
 a164:=Tryz.isAgg166
 z164:=Tryz.sizeOf166
 v164:=Tryz.zeroValue166}
theorem Tryz.Builder_Extra_156:Builder.Extra Tryz.prog Tryz.lays156_ren:={
 sizeBuilder:=by kernel_rfl
 liesBuilder:=by kernel_rfl
 t5:=Tryz.underlying5
 a5:=Tryz.isAgg5
 z5:=Tryz.sizeOf5
 v5:=Tryz.zeroValue5
 infoByte:=by kernel_rfl
 cellsByte:=by kernel_rfl
 sizeByte:=by kernel_rfl
 neB5:=by decide}
open Go.RowKit in
theorem Tryz.strings_Join_none (a:Option Addr) (c:Nat) (sep:ByteArray) (w:World):
  Calls Tryz.prog 39 #[.slice a 0 c,.string sep] w fun e w'=>e=.returned (.string ⟨#[]⟩)∧w'=w:=Any.strings_Join_none Tryz.lays156 Tryz.Builder_Extra_156 a c sep w
open Go.RowKit in
theorem Tryz.strings_Join (bk o c:Nat) (xs:List ByteArray) (sep:ByteArray) (w:World) (hcells:∀(j:Nat) x,xs[j]?=some x→w.cell? ⟨bk,o+j,none⟩=some (.string x)) (hbk:bk<w.heap.size) (hN:xs.length≤140737488355328) (hcap:xs.length≤c) (hlen:(Lib.join (xs.map (·.data.toList)) sep.data.toList).length≤140737488355328):
  Calls Tryz.prog 39 #[.slice (some ⟨bk,o,none⟩) xs.length c,.string sep] w fun e w'=>e=.returned (.string ⟨(Lib.join (xs.map (·.data.toList)) sep.data.toList).toArray⟩)∧Below w.heap.size w w':=Any.strings_Join Tryz.lays156 Tryz.Builder_Extra_156 bk o c xs sep w hcells hbk hN hcap hlen
def Tryz.lays283_ren:Go.Shelf.Ren:=⟨fun | 283=>93 | n=>n,fun | 3=>3 | 9=>9 | 4=>4 | n=>n,fun | n=>n⟩
theorem Tryz.lays283:Go.Proofs.Lays.n283 Tryz.prog Tryz.lays283_ren:={
 mixed:=by kernel_rfl
 f283:=Tryz.func93.trans (congrArg some (by kernel_rfl))
 t3:=Tryz.underlying3
 a3:=Tryz.isAgg3
 z3:=Tryz.sizeOf3
 v3:=Tryz.zeroValue3
 t4:=Tryz.underlying4
 a4:=Tryz.isAgg4
 z4:=Tryz.sizeOf4
 v4:=Tryz.zeroValue4
 t9:=Tryz.underlying9
 a9:=Tryz.isAgg9
 z9:=Tryz.sizeOf9
 v9:=Tryz.zeroValue9}
open Go.Lib in
theorem Tryz.internal_strconv_small (i:Nat) (h:i<100) (w:World):
  Calls Tryz.prog 93 #[.int .i64 i] w fun e w'=>e=.returned (.string ⟨(Lib.decDigits i).toArray⟩)∧w'=w:=Any.internal_strconv_small Tryz.lays283 i h w
def Tryz.laysM284_ren:Go.Shelf.Ren:=⟨fun | 284=>94 | 129=>142 | 317=>141 | 318=>143 | n=>n,fun | 53=>32 | 3=>3 | 212=>205 | 0=>0 | 4=>4 | 46=>117 | 5=>5 | 9=>9 | n=>n,fun | 17=>0 | n=>n⟩
theorem Tryz.laysM284:Go.Proofs.LaysM.n284 Tryz.prog Tryz.laysM284_ren:={
 mixed:=by kernel_rfl
 f129:=Tryz.func142.trans (congrArg some (by kernel_rfl))
 f284:=Tryz.func94.trans (congrArg some (by kernel_rfl))
 f317:=Tryz.func141.trans (congrArg some (by kernel_rfl))
 f318:=Tryz.func143.trans (congrArg some (by kernel_rfl))
 t0:=Tryz.underlying0
 a0:=Tryz.isAgg0
 z0:=Tryz.sizeOf0
 v0:=Tryz.zeroValue0
 t3:=Tryz.underlying3
 a3:=Tryz.isAgg3
 z3:=Tryz.sizeOf3
 v3:=Tryz.zeroValue3
 t4:=Tryz.underlying4
 a4:=Tryz.isAgg4
 z4:=Tryz.sizeOf4
 v4:=Tryz.zeroValue4
 t5:=Tryz.underlying5
 a5:=Tryz.isAgg5
 z5:=Tryz.sizeOf5
 v5:=Tryz.zeroValue5
 t9:=Tryz.underlying9
 a9:=Tryz.isAgg9
 z9:=Tryz.sizeOf9
 v9:=Tryz.zeroValue9
 t46:=Tryz.underlying117
 a46:=Tryz.isAgg117
 z46:=Tryz.sizeOf117
 v46:=Tryz.zeroValue117
 t53:=Tryz.underlying32
 a53:=Tryz.isAgg32
 z53:=Tryz.sizeOf32
 v53:=Tryz.zeroValue32
 t212:=Tryz.underlying205
 a212:=Tryz.isAgg205
 z212:=Tryz.sizeOf205
 v212:=Tryz.zeroValue205
 g17:=by kernel_rfl
 i0:=by kernel_rfl
 i3:=by kernel_rfl
 i4:=by kernel_rfl
 i5:=by kernel_rfl
 i9:=by kernel_rfl
 i46:=by kernel_rfl
 i53:=by kernel_rfl
 i212:=by kernel_rfl
 m17:=by kernel_rfl}
open Go.Lib in
theorem Tryz.internal_strconv_numDigits (u:Nat) (h1:1≤u) (h2:u<18446744073709551616) (w:World) (htab:Lib.TabIs Tryz.prog w "internal/strconv.uint64pow10" .u64 Lib.pow10Tab):
  Calls Tryz.prog 94 #[.int .u64 u] w fun e w'=>e=.returned (.int .i64 (Lib.nDigits u))∧w'=w:=Any.internal_strconv_numDigits Tryz.laysM284 u h1 h2 w htab
def Tryz.lays285_ren:Go.Shelf.Ren:=⟨fun | 285=>95 | n=>n,fun | 37=>25 | 53=>32 | 3=>3 | 4=>4 | 51=>47 | 9=>9 | 5=>5 | 0=>0 | n=>n,fun | n=>n⟩
theorem Tryz.lays285:Go.Proofs.Lays.n285 Tryz.prog Tryz.lays285_ren:={
 mixed:=by kernel_rfl
 f285:=Tryz.func95.trans (congrArg some (by kernel_rfl))
 t0:=Tryz.underlying0
 a0:=Tryz.isAgg0
 z0:=Tryz.sizeOf0
 v0:=Tryz.zeroValue0
 t3:=Tryz.underlying3
 a3:=Tryz.isAgg3
 z3:=Tryz.sizeOf3
 v3:=Tryz.zeroValue3
 t4:=Tryz.underlying4
 a4:=Tryz.isAgg4
 z4:=Tryz.sizeOf4
 v4:=Tryz.zeroValue4
 t5:=Tryz.underlying5
 a5:=Tryz.isAgg5
 z5:=Tryz.sizeOf5
 v5:=Tryz.zeroValue5
 t9:=Tryz.underlying9
 a9:=Tryz.isAgg9
 z9:=Tryz.sizeOf9
 v9:=Tryz.zeroValue9
 t37:=Tryz.underlying25
 a37:=Tryz.isAgg25
 z37:=Tryz.sizeOf25
 v37:=Tryz.zeroValue25
 t51:=Tryz.underlying47
 a51:=Tryz.isAgg47
 z51:=Tryz.sizeOf47
 v51:=Tryz.zeroValue47
 t53:=Tryz.underlying32
 a53:=Tryz.isAgg32
 z53:=Tryz.sizeOf32
 v53:=Tryz.zeroValue32}
open Go.RowKit Go.Sort Go.Lib in
theorem Tryz.internal_strconv_formatBase10 (blk off cap:Nat) (u:Nat) (d:Array UInt8) (w:World) (hH:Holds (fun (b:UInt8)=>Value.int .u8 (b.toNat:Int)) w blk off d) (hu:u<10^d.size) (hu64:u<18446744073709551616) (hsz:d.size<4611686018427387904):
  Calls Tryz.prog 95 #[.slice (some ⟨blk,off,none⟩) d.size cap,.int .u64 u] w fun e w'=>
   e=.returned (.tuple #[])∧∃(n v':Nat) (dk:Array UInt8),w'=(putRow (fun (b:UInt8)=>Value.int .u8 (b.toNat:Int)) w blk off dk).drewN n∧FmtInv d.size u 0 v' dk:=Any.internal_strconv_formatBase10 Tryz.lays285 blk off cap u d w hH hu hu64 hsz
def Tryz.laysM171_ren:Go.Shelf.Ren:=⟨fun | 171=>38 | 243=>64 | 246=>91 | 283=>93 | 284=>94 | 285=>95 | 286=>96 | 129=>142 | 317=>141 | 318=>143 | 319=>144 | 320=>145 | 337=>193 | 338=>194 | n=>n,fun | 3=>3 | 9=>9 | 2=>2 | 4=>4 | 171=>161 | 0=>0 | 53=>32 | 37=>25 | 5=>5 | 173=>164 | 212=>205 | 51=>47 | 20=>20 | 213=>206 | 46=>117 | 232=>23 | 233=>191 | n=>n,fun | 17=>0 | 18=>2 | 19=>3 | n=>n⟩
theorem Tryz.laysM171:Go.Proofs.LaysM.n171 Tryz.prog Tryz.laysM171_ren:={
 mixed:=by kernel_rfl
 f129:=Tryz.func142.trans (congrArg some (by kernel_rfl))
 f171:=Tryz.func38.trans (congrArg some (by kernel_rfl))
 f243:=Tryz.func64.trans (congrArg some (by kernel_rfl))
 f246:=Tryz.func91.trans (congrArg some (by kernel_rfl))
 f283:=Tryz.func93.trans (congrArg some (by kernel_rfl))
 f284:=Tryz.func94.trans (congrArg some (by kernel_rfl))
 f285:=Tryz.func95.trans (congrArg some (by kernel_rfl))
 f286:=Tryz.func96.trans (congrArg some (by kernel_rfl))
 f317:=Tryz.func141.trans (congrArg some (by kernel_rfl))
 f318:=Tryz.func143.trans (congrArg some (by kernel_rfl))
 f319:=Tryz.func144.trans (congrArg some (by kernel_rfl))
 f320:=Tryz.func145.trans (congrArg some (by kernel_rfl))
 f337:=Tryz.func193.trans (congrArg some (by kernel_rfl))
 f338:=Tryz.func194.trans (congrArg some (by kernel_rfl))
 t0:=Tryz.underlying0
 a0:=Tryz.isAgg0
 z0:=Tryz.sizeOf0
 v0:=Tryz.zeroValue0
 t2:=Tryz.underlying2
 a2:=Tryz.isAgg2
 z2:=Tryz.sizeOf2
 v2:=Tryz.zeroValue2
 t3:=Tryz.underlying3
 a3:=Tryz.isAgg3
 z3:=Tryz.sizeOf3
 v3:=Tryz.zeroValue3
 t4:=Tryz.underlying4
 a4:=Tryz.isAgg4
 z4:=Tryz.sizeOf4
 v4:=Tryz.zeroValue4
 t5:=Tryz.underlying5
 a5:=Tryz.isAgg5
 z5:=Tryz.sizeOf5
 v5:=Tryz.zeroValue5
 t9:=Tryz.underlying9
 a9:=Tryz.isAgg9
 z9:=Tryz.sizeOf9
 v9:=Tryz.zeroValue9
 t20:=Tryz.underlying20
 a20:=Tryz.isAgg20
 z20:=Tryz.sizeOf20
 v20:=Tryz.zeroValue20
 t37:=Tryz.underlying25
 a37:=Tryz.isAgg25
 z37:=Tryz.sizeOf25
 v37:=Tryz.zeroValue25
 t46:=Tryz.underlying117
 a46:=Tryz.isAgg117
 z46:=Tryz.sizeOf117
 v46:=Tryz.zeroValue117
 t51:=Tryz.underlying47
 a51:=Tryz.isAgg47
 z51:=Tryz.sizeOf47
 v51:=Tryz.zeroValue47
 t53:=Tryz.underlying32
 a53:=Tryz.isAgg32
 z53:=Tryz.sizeOf32
 v53:=Tryz.zeroValue32
 t171:=Tryz.underlying161
 a171:=Tryz.isAgg161
 z171:=Tryz.sizeOf161
 v171:=Tryz.zeroValue161
 t173:=Tryz.underlying164
 a173:=Tryz.isAgg164
 z173:=Tryz.sizeOf164
 v173:=Tryz.zeroValue164
 t212:=Tryz.underlying205
 a212:=Tryz.isAgg205
 z212:=Tryz.sizeOf205
 v212:=Tryz.zeroValue205
 t213:=Tryz.underlying206
 a213:=Tryz.isAgg206
 z213:=Tryz.sizeOf206
 t232:=Tryz.underlying23
 a232:=Tryz.isAgg23
 z232:=Tryz.sizeOf23
 v232:=Tryz.zeroValue23
 t233:=Tryz.underlying191
 a233:=Tryz.isAgg191
 z233:=Tryz.sizeOf191
 v233:=Tryz.zeroValue191
 g17:=by kernel_rfl
 g18:=by kernel_rfl
 g19:=by kernel_rfl
 i0:=by kernel_rfl
 i2:=by kernel_rfl
 i3:=by kernel_rfl
 i4:=by kernel_rfl
 i5:=by kernel_rfl
 i9:=by kernel_rfl
 i20:=by kernel_rfl
 i37:=by kernel_rfl
 i46:=by kernel_rfl
 i51:=by kernel_rfl
 i53:=by kernel_rfl
 i171:=by kernel_rfl
 i173:=by kernel_rfl
 i212:=by kernel_rfl
 i232:=by kernel_rfl
 i233:=by kernel_rfl
 m17:=by kernel_rfl
 m18:=by kernel_rfl
 m19:=by kernel_rfl}
open Go.RowKit Go.Sort Go.Lib in
theorem Tryz.strconv_Itoa (n:Int) (h0: -9223372036854775808≤n) (h1:n≤9223372036854775807) (w:World) (htab:Lib.TabIs Tryz.prog w "internal/strconv.uint64pow10" .u64 Lib.pow10Tab):
  Calls Tryz.prog 38 #[.int .i64 n] w fun e w'=>e=.returned (.string ⟨(Lib.itoa n).toArray⟩)∧∃k os,w'=grow (w.drewN k) os:=Any.strconv_Itoa Tryz.laysM171 n h0 h1 w htab
theorem Tryz.lays166:Go.Proofs.Lays.n166 Tryz.prog Tryz.lays156_ren:={Tryz.lays156 with}
theorem Tryz.lays167:Go.Proofs.Lays.n167 Tryz.prog Tryz.lays156_ren:={Tryz.lays156 with f167:=Tryz.func67.trans (congrArg some (by kernel_rfl)),t5:=Tryz.underlying5,a5:=Tryz.isAgg5,z5:=Tryz.sizeOf5,v5:=Tryz.zeroValue5}
open Go.RowKit in
theorem Tryz.Builder_WriteByte (B b:Nat) (bs:List Value) (c:Int) (w:World) (h:Lib.IsBuilder 84 5 B b bs w) (hlen:bs.length+1≤140737488355328) (hBw:B≤w.heap.size):
  Calls Tryz.prog 67 #[.pointer (some ⟨b,0,none⟩),.int .u8 c] w fun e w'=>e=.returned .nilIface∧(Lib.BuilderAt 84 5 B b (.pointer (some ⟨b,0,none⟩)) (bs++[.int .u8 c]) w'∧Below B w w'):=Any.Builder_WriteByte Tryz.lays167 Tryz.Builder_Extra_156 B b bs c w h hlen hBw
open Go.RowKit in
theorem Tryz.Builder_WriteString (B b:Nat) (bs:List Value) (s:ByteArray) (w:World) (h:Lib.IsBuilder 84 5 B b bs w) (hlen:bs.length+s.size≤140737488355328) (hBw:B≤w.heap.size):
  Calls Tryz.prog 43 #[.pointer (some ⟨b,0,none⟩),.string s] w fun e w'=>e=.returned (.tuple #[.int .i64 s.size,.nilIface])∧(Lib.BuilderAt 84 5 B b (.pointer (some ⟨b,0,none⟩)) (bs++Lib.strCells s) w'∧Below B w w'):=Any.Builder_WriteString Tryz.lays166 Tryz.Builder_Extra_156 B b bs s w h hlen hBw
end Go.Proofs
namespace Go.Proofs
open Go.Shelf Go.RowKit Go.Sort Go.Lib
theorem Tryz.below_grow (w:World) (os:Array Obj) (k:Nat):Below w.heap.size w ((grow w os).drewN k):=
 ⟨rfl,rfl,rfl,by simp [World.drewN,grow],fun j hj=>by simp [World.drewN,grow,Array.getElem?_append_left hj]⟩
theorem Tryz.below_drew_grow (w:World) (os:Array Obj) (k:Nat):Below w.heap.size w (grow (w.drewN k) os):=
 ⟨rfl,rfl,rfl,by simp [World.drewN,grow],fun j hj=>by simp [World.drewN,grow,Array.getElem?_append_left hj]⟩
set_option maxHeartbeats 6400000 in
set_option maxRecDepth 100000 in
theorem Tryz.internal_strconv_FormatUint (u:Nat) (hu64:u<18446744073709551616) (w:World) (htab:Lib.TabIs Tryz.prog w "internal/strconv.uint64pow10" .u64 Lib.pow10Tab):
  Calls Tryz.prog 66 #[.int .u64 u,.int .i64 10] w fun e w'=>e=.returned (.string ⟨(Lib.decDigits u).toArray⟩)∧Below w.heap.size w w':=by
 by_cases hs:u<100
 ·go_enter Tryz.func66,Tryz.ntmps66
  go_wp2_with (go_at_call 93; refine (Tryz.internal_strconv_small u hs _).mono ?_; rintro e w' ⟨rfl,rfl⟩)
  go_ret
  exact ⟨rfl,Below.refl _ _⟩
 ·have hu1:1≤u:=by omega
  have hnd20:Lib.nDigits u≤20:=by have:=Lib.numDigits_eq u hu1 hu64; split at this<;>omega
  have hal:Tryz.prog.arrayLen 161=24:=by simp [Program.arrayLen,Tryz.underlying161]
  have hsl1:∀W,(Instr.sliceAt 161 (.pointer (some ⟨w.heap.size,0,none⟩)) none (some (.int .i64 (Lib.nDigits u:Int))) none).run Tryz.prog W=.ok (.slice (some ⟨w.heap.size,0,none⟩) (Lib.nDigits u) 24) W:=fun W=>by
   rw [run_sliceAt_array_h W 161 ⟨w.heap.size,0,none⟩ (by simp [Program.arrayLen,Program.elem,Tryz.underlying161]) .i64 (Lib.nDigits u:Int) (by omega) (by rw [hal]; omega)]
   go_simp
  have hH0:=Lib.holds_zero0 w 161 (Lib.nDigits u) (by omega);have hfmt:=Tryz.internal_strconv_formatBase10 w.heap.size 0 24 u (Array.replicate (Lib.nDigits u) 0) (w.alloc (.cells Lib.zeros24 161)) hH0 (by rw [Array.size_replicate]; exact Lib.lt_pow_nDigits u) hu64 (by rw [Array.size_replicate]; omega);rw [Array.size_replicate] at hfmt;have HH0:=Lib.hid hH0;clear hH0 hal
  go_enter Tryz.func66,Tryz.ntmps66
  go_wp2_with (go_at_call 94; refine (Tryz.internal_strconv_numDigits u hu1 hu64 _ (Lib.tabIs_alloc htab _)).mono ?_; rintro e w' ⟨rfl,rfl⟩)
  go_at_call 95
  refine hfmt.mono ?_
  rintro e w' ⟨rfl,k,v',dk,rfl,hF⟩
  have hcv:(convert 25 9 (.slice (some ⟨w.heap.size,0,none⟩) (Lib.nDigits u) 24)).run Tryz.prog ((putRow (fun (b:UInt8)=>Value.int .u8 (b.toNat:Int)) (w.alloc (.cells Lib.zeros24 161)) w.heap.size 0 dk).drewN k)=.ok (.string ⟨(Lib.decDigits u).toArray⟩) ((putRow (fun (b:UInt8)=>Value.int .u8 (b.toNat:Int)) (w.alloc (.cells Lib.zeros24 161)) w.heap.size 0 dk).drewN k):=by
   have h:=run_convert_bytes_back (P:=Tryz.prog) ((putRow (fun (b:UInt8)=>Value.int .u8 (b.toNat:Int)) (w.alloc (.cells Lib.zeros24 161)) w.heap.size 0 dk).drewN k) 25 9 5 ⟨w.heap.size,0,none⟩ 24 (Lib.decDigits u) Tryz.underlying25 Tryz.underlying5 Tryz.underlying9 (fun j hj=>by
    rw [Lib.row_is_numeral hF j hj,Lib.add_plain,World.cell?_drewN];exact cell?_putRow (fun (b:UInt8)=>Value.int .u8 (b.toNat:Int)) _ w.heap.size 0 _ dk HH0.out (by rw [hF.size,Array.size_replicate]) j (by rw [hF.size]; rw [Lib.decDigits_length] at hj; exact hj))
   rw [Lib.decDigits_length] at h;exact h
  go_wp2
  go_ret
  refine ⟨rfl,?_⟩;rw [alloc_eq_grow];obtain ⟨os',_,e⟩:=putRow_grow_new (fun (b:UInt8)=>Value.int .u8 (b.toNat:Int)) w #[.cells Lib.zeros24 161] w.heap.size 0 dk (Nat.le_refl _);rw [e];exact Tryz.below_grow w os' k
set_option maxRecDepth 100000 in
theorem Tryz.strconv_FormatUint (u:Nat) (hu64:u<18446744073709551616) (w:World) (htab:Lib.TabIs Tryz.prog w "internal/strconv.uint64pow10" .u64 Lib.pow10Tab):
  Calls Tryz.prog 40 #[.int .u64 u,.int .i64 10] w fun e w'=>e=.returned (.string ⟨(Lib.decDigits u).toArray⟩)∧Below w.heap.size w w':=by
 go_enter Tryz.func40,Tryz.ntmps40
 go_wp2_with (go_at_call 66; refine (Tryz.internal_strconv_FormatUint u hu64 _ htab).mono ?_; rintro e w' ⟨rfl,hb⟩)
 go_ret
 exact ⟨rfl,hb⟩
end Go.Proofs
namespace Go.Proofs
open Go.Shelf Go.RowKit Go.Sort Go.Lib
def hexD (n:Nat):UInt8:=[48,49,50,51,52,53,54,55,56,57,97,98,99,100,101,102].getD n 0
def hexT:List Int→List UInt8
 | []=>[]
 | x::l=>hexD (x.toNat/16)::hexD (x.toNat % 16)::hexT l
theorem Nh:∀l:List Int,(hexT l).length=2*l.length
 | []=>rfl
 | x::l=>by simp only [hexT,List.length_cons,Nh l]; omega
theorem Od:∀a b:List Int,hexT (a++b)=hexT a++hexT b
 | [],b=>rfl
 | x::a,b=>by simp only [List.cons_append,hexT,Od a b]
theorem Tryz.index24 {cs:Array Value} {x:Int} {k:Nat} (hk:k<32) (h:cs[k]?=some (.int .u8 x)) (W:World):(Instr.index 24 (.agg cs) (.int .i64 k)).run Tryz.prog W=.ok (.int .u8 x) W:=by
 simp [Instr.index,asIntOf,run_underlying Tryz.underlying24,Tryz.sizeOf5,part,Tryz.isAgg5,h];intro h32;omega
theorem zw8 (x:Int) (q:Nat) (hq:q<16) (hx:x.toNat=q) (h':x.toNat<ByteArray.size ⟨#[48,49,50,51,52,53,54,55,56,57,97,98,99,100,101,102]⟩):((⟨#[48,49,50,51,52,53,54,55,56,57,97,98,99,100,101,102]⟩:ByteArray)[x.toNat]'h')=hexD q:=by
 subst hx;generalize x.toNat=q at*
 match q,hq with
 | 0,_=>rfl
 | 1,_=>rfl
 | 2,_=>rfl
 | 3,_=>rfl
 | 4,_=>rfl
 | 5,_=>rfl
 | 6,_=>rfl
 | 7,_=>rfl
 | 8,_=>rfl
 | 9,_=>rfl
 | 10,_=>rfl
 | 11,_=>rfl
 | 12,_=>rfl
 | 13,_=>rfl
 | 14,_=>rfl
 | 15,_=>rfl
 | q+16,h=>exact absurd h (by omega)
theorem Ny {P:Program} {W:World} {t g:Nat} {cs:Array Value} {ty:TypeId} {fr:Nat×Nat} (h1:(isAgg t).run P W=.ok true W) (h2:(sizeOf t).run P W=.ok cs.size W) (hc:W.heap[g]?=some (.cells cs ty fr)):
  (Instr.loadAt t (.pointer (some ⟨g,0,none⟩))).run P W=.ok (.agg cs) W:=by
 have hcell:∀(j:Nat) v,cs.toList[j]?=some v→W.cell? ((⟨g,0,none⟩:Addr).add j)=some v:=fun j v hj=>by
  rw [Lib.add_plain,Lib.cell_of_heap hc];simpa using hj
 have hlc:=run_loadCells_list (P:=P) W ⟨g,0,none⟩ cs.toList hcell;rw [Array.length_toList] at hlc;have hs:(Instr.sureAddr (.pointer (some (⟨g,0,none⟩:Addr)))).run P W=.ok ⟨g,0,none⟩ W:=rfl;simp only [Instr.loadAt,Sem.run_bind,hs,Result.andThen_ok,loadVar,h1,if_true,h2,hlc];simp
theorem load_wp {P:Program} {o:Oper} {a:Act} {w:World} {K:Act→World→Prop} {Q:Exit→Act→World→Prop} {t:TypeId} {p:Operand} {v:Value} (hop:o.op=.load t p) (hr:(Instr.loadAt t (a.eval p)).run P w=.ok v w) (hk:K (a.put o.dst v) w):o.wp P a w K Q:=by
 have h:(execOp a.eval o).run P w=.ok (.value v) w:=by
  simp only [execOp,hop,Sem.run_bind,hr,Result.andThen_ok];rfl
 unfold Oper.wp;rw [h];exact hk
theorem R4 {P:Program} {ops:Array Oper} {o:Oper} {rest:List Oper} {a:Act} {w:World} {Q:Exit→Act→World→Prop} {t:TypeId} {p:Operand} {v:Value} (hg:o.guard=none) (hop:o.op=.load t p) (hr:(Instr.loadAt t (a.eval p)).run P w=.ok v w) (hk:wpList P ops Q rest (a.put o.dst v) w):wpList P ops Q (o::rest) a w:=
 wpList_plain hg fun _ hK=>load_wp hop hr (hK _ _ hk)
theorem Tryz.load24 (cs:Array Value) (hcs:cs.size=32) (w:World) (o:Obj):(Instr.loadAt 24 (.pointer (some ⟨w.heap.size,0,none⟩))).run Tryz.prog ((w.alloc (.cells cs 24)).alloc o)=.ok (.agg cs) ((w.alloc (.cells cs 24)).alloc o):=by
 refine Ny (Tryz.isAgg24 _) (by rw [hcs]; exact Tryz.sizeOf24 _) (ty:=24) (fr:=(0,0)) ?_;have h1:((w.alloc (.cells cs 24)).alloc o).heap[w.heap.size]?=(w.alloc (.cells cs 24)).heap[w.heap.size]?:=Go.heap_alloc_old _ _ (by simp);rw [h1];exact heap_alloc_new w _
set_option maxHeartbeats 4000000 in
set_option maxRecDepth 1000000 in
theorem Tryz.sha_Text (cs:Array Value) (hs:List Int) (hl:hs.length=32) (hc:∀i,i<32→cs[i]?=some (.int .u8 (hs.getD i 0))) (hcs:cs.size=32) (hu:∀x∈hs,0≤x∧x<256) (w:World):
  Calls Tryz.prog 42 #[.agg cs] w fun e w'=>e=.returned (.string ⟨(hexT hs).toArray⟩)∧Below w.heap.size w w':=by
 have hld:=Lib.hid (Tryz.load24 cs hcs w);have HC:=Lib.hid hc;clear hc hcs
 go_enter Tryz.func42,Tryz.ntmps42
 go_wp2_with (refine R4 (t:=24) (p:=.tmp 1) rfl rfl (hld.out _) ?_)
 go_loopw [7] (fun i wr=>∃k:Nat,k≤32∧i=.int .i64 k∧Lib.IsBuilder 84 5 (w.heap.size+1) (w.heap.size+1) (Lib.byteCells (hexT (hs.take k))) wr∧Below w.heap.size w wr) (fun i _=>32 - (Lib.intOf i).toNat)
 case atStart=>
  have h0:=Lib.fresh_isBuilder 84 5 (w.alloc (.cells cs 24));have hz:(w.alloc (.cells cs 24)).heap.size=w.heap.size+1:=by simp
  rw [hz] at h0;exact ⟨0,by omega,rfl,by simpa [hexT,Lib.byteCells] using h0,((Below.refl _ w).alloc (Nat.le_refl _) _).alloc (by simp) _⟩
 case round=>
  obtain ⟨k,hk,rfl,hI,hb⟩:=hrel;have hsz:w.heap.size+1≤wr.heap.size:=by
   rcases hI with hI | hI<;>(obtain ⟨_,v,hbk,_⟩:=hI; have:=(Array.getElem?_eq_some_iff.1 hbk).1; omega)
  have hlen:(Lib.byteCells (hexT (hs.take k))).length≤64:=by
   rw [Lib.byteCells_length,Nh,List.length_take]; omega
  by_cases hlt:k<32
  ·have h1:=HC.out k hlt
   have hx:0≤hs.getD k 0∧hs.getD k 0<256:=by
    have:k<hs.length:=by omega
    simpa [this] using hu _ (List.getElem_mem this)
   have htk:hexT (hs.take (k+1))=hexT (hs.take k)++[hexD ((hs.getD k 0).toNat/16),hexD ((hs.getD k 0).toNat % 16)]:=by
    have hkl:k<hs.length:=by omega
    rw [List.take_succ_eq_append_getElem hkl,Od];simp [hexT,hkl]
   generalize hs.getD k 0=x at h1 hx htk;have hidx:∀W,(Instr.index 24 (.agg cs) (.int .i64 k)).run Tryz.prog W=.ok (.int .u8 x) W:=fun W=>Tryz.index24 (by omega) h1 W
   go_wp2_with (go_at_call 67; refine (Tryz.Builder_WriteByte (w.heap.size+1) (w.heap.size+1) _ _ wr hI (by omega) hsz).mono ?_)
   rintro e W1 ⟨rfl,h2,b1⟩
   have hsz1:w.heap.size+1≤W1.heap.size:=Nat.le_trans hsz b1.size
   go_wp2_with (go_at_call 67; refine (Tryz.Builder_WriteByte (w.heap.size+1) (w.heap.size+1) _ _ W1 (Or.inr h2) (by rw [List.length_append,List.length_singleton]; omega) hsz1).mono ?_)
   rintro e W2 ⟨rfl,h3,b2⟩
   go_wp2
   go_roundw
   case rel=>
    refine ⟨k+1,by omega,by simp,Or.inr ?_,hb.trans ((b1.trans b2).mono (by omega))⟩;rw [zw8 (x/16) (x.toNat/16) (by omega) (by omega),zw8 (x % 16) (x.toNat % 16) (by omega) (by omega)] at h3;rw [htk,Lib.byteCells_append];rw [List.append_assoc] at h3;exact h3
   case measure=>simp [Lib.intOf]; omega
  ·have hk32:k=32:=by omega
   subst hk32;rw [List.take_of_length_le (by omega)] at hI
   go_wp2_with (go_at_call 44; refine (Tryz.Builder_String_any (w.heap.size+1) (w.heap.size+1) _ _ hI hsz).mono ?_)
   rintro e W1 ⟨rfl,b1⟩
   go_wp2
   go_ret
   refine ⟨?_,hb.trans (b1.mono (by omega))⟩;rfl
end Go.Proofs
namespace Go.Proofs
open Go.Shelf Go.RowKit Go.Sort Go.Lib
theorem zgj {P:Program} {ops:Array Oper} {o:Oper} {rest:List Oper} {a:Act} {w w':World} {Q:Exit→Act→World→Prop} {t:TypeId} {p x:Operand} (hg:o.guard=none) (hop:o.op=.store t p x) (hr:(Instr.storeAt t (a.eval p) (a.eval x)).run P w=.ok () w') (hk:wpList P ops Q rest (a.put o.dst undef) w'):wpList P ops Q (o::rest) a w:=by
 refine wpList_plain hg fun K hK=>?_
 have h:(execOp a.eval o).run P w=.ok .skip w':=by
  simp only [execOp,hop,Sem.run_bind,hr,Result.andThen_ok];rfl
 unfold Oper.wp;rw [h];exact hK _ _ hk
theorem T0 {P:Program} {W:World} {t:Nat} {z cs:Array Value} (hz:z.size=cs.size) (hone:∀u∈cs.toList,u.oneCell'=true) (hsz:∀W,(sizeOf t).run P W=.ok cs.size W):
  (Instr.storeAt t (.pointer (some ⟨W.heap.size,0,none⟩)) (.agg cs)).run P (W.alloc (.cells z t))=.ok () ((W.alloc (.cells z t)).setRow W.heap.size cs):=by
 have hs:∀W':World,(Instr.sureAddr (.pointer (some (⟨W.heap.size,0,none⟩:Addr)))).run P W'=.ok ⟨W.heap.size,0,none⟩ W':=fun _=>rfl
 have hst:=run_storeCells_at P W.heap.size 0 t cs.toList 0 z (W.alloc (.cells z t)) (heap_alloc_new W _) (by simp; omega) hone;have e:(z.toList.take 0++cs.toList++z.toList.drop (0+cs.toList.length)).toArray=cs:=by
  rw [List.take_zero,List.nil_append,Nat.zero_add,List.drop_eq_nil_of_le (by simp; omega),List.append_nil]
 simp only [Instr.storeAt,Sem.run_bind,hs,Result.andThen_ok,storeVar,Value.cells,hsz];simp only [Nat.add_zero] at hst;rw [e] at hst;simp;rw [hst]
theorem Xf {P:Program} {W:World} {t g off:Nat} {cs:List Value} {c:Array Value} {ty:TypeId} {fr:Nat×Nat} (h1:(isAgg t).run P W=.ok true W) (h2:(sizeOf t).run P W=.ok cs.length W) (hc:W.heap[g]?=some (.cells c ty fr))
  (hs:∀j v,cs[j]?=some v→c[off+j]?=some v):(Instr.loadAt t (.pointer (some ⟨g,off,none⟩))).run P W=.ok (.agg cs.toArray) W:=by
 have hcell:∀(j:Nat) v,cs[j]?=some v→W.cell? ((⟨g,off,none⟩:Addr).add j)=some v:=fun j v hj=>by
  rw [Go.PG.add_eq,cell_of_row W g (off+j) c ty fr hc];exact hs j v hj
 have hlc:=run_loadCells_list (P:=P) W ⟨g,off,none⟩ cs hcell;have hs:(Instr.sureAddr (.pointer (some (⟨g,off,none⟩:Addr)))).run P W=.ok ⟨g,off,none⟩ W:=rfl;simp only [Instr.loadAt,Sem.run_bind,hs,Result.andThen_ok,loadVar,h1,if_true,h2,hlc];simp
theorem Ve {T e B b:Nat} {bs:List Value} {w w':World} (h:Lib.IsBuilder T e B b bs w) (hk:∀k,k<w.heap.size→w'.heap[k]?=w.heap[k]?):Lib.IsBuilder T e B b bs w':=by
 have key:∀p,Lib.BuilderAt T e B b p bs w→Lib.BuilderAt T e B b p bs w':=fun p hp=>by
  have hlt:=hp.lt;obtain ⟨hB,v,hb,hown,hne⟩:=hp;refine ⟨hB,v,by rw [hk b hlt]; exact hb,?_,hne⟩;obtain ⟨h1,h2⟩:=hown;refine ⟨h1,h2.imp id ?_⟩
  rintro ⟨g,cap,cur,e1,e2,e3,e4⟩
  exact ⟨g,cap,cur,e1,e2,by rw [hk g (Array.getElem?_eq_some_iff.1 e3).1]; exact e3,e4⟩
 rcases h with h | h
 ·exact .inl (key _ h)
 ·exact .inr (key _ h)
section
open Go.PG
abbrev KAns:Kd:=.pair (.int .i64) (.pair (.int .u64) (.pair (.sl (.int .i64)) (.pair (.arr 32 (.int .u8)) .unit)))
def texJ:List ByteArray→List UInt8
 | []=>[]
 | s::l=>s.data.toList++10::texJ l
theorem E3:∀a b:List ByteArray,texJ (a++b)=texJ a++texJ b
 | [],b=>rfl
 | s::a,b=>by simp only [List.cons_append,texJ,E3 a b,List.append_assoc]
theorem zk4 (a b:ByteArray):(a++b).data.toList=a.data.toList++b.data.toList:=by
 rw [ByteArray.data_append,Array.toList_append]
theorem zxn (s:ByteArray):s.data.toList.length=s.size:=by rw [Array.length_toList]; rfl
theorem Tl {ts:List ByteArray} {k:Nat} (h:k<ts.length):texJ (ts.take (k+1))=texJ (ts.take k)++(ts.getD k ByteArray.empty).data.toList++[10]:=by
 rw [List.take_succ_eq_append_getElem h,E3,List.append_assoc];simp [texJ,h]
theorem zgh:∀ts:List ByteArray,ts.length≤(texJ ts).length
 | []=>Nat.le_refl _
 | s::l=>by have:=zgh l; simp only [texJ,List.length_cons,List.length_append]; omega
theorem texJ_le (ts:List ByteArray) (k:Nat):(texJ (ts.take k)).length≤(texJ ts).length:=by
 have h:texJ ts=texJ (ts.take k)++texJ (ts.drop k):=by rw [←E3,List.take_append_drop]
 rw [h,List.length_append];omega
set_option maxHeartbeats 4000000 in
set_option maxRecDepth 1000000 in
theorem Tryz.script_Texts (S:Nat→Prop) (w:World) (hS:ShOK S w) (l:List (KAns.T)) (ts:List ByteArray) (v:Value) (hv:VRd S w (.sl KAns) l v) (hlt:ts.length=l.length) (hT:∀(i:Nat) (h:i<l.length),Go.PG.Holds Tryz.prog 16 [.val KAns l[i]] [.val .str (ts.getD i ByteArray.empty)] [])
  (hlen:(texJ ts).length≤140737488355328):
  Calls Tryz.prog 18 #[v] w fun e w'=>e=.returned (.string ⟨(texJ ts).toArray⟩)∧Below w.heap.size w w':=by
 obtain ⟨base,cap,rfl⟩:∃base cap,v=.slice base l.length cap:=by
  rcases VRd.sl.1 hv with ⟨rfl,rfl⟩ | ⟨g,off,cap,c,t,fr,rfl,_⟩ | ⟨a0,rfl,rfl⟩
  ·exact ⟨_,_,rfl⟩
  ·exact ⟨_,_,rfl⟩
  ·exact ⟨_,_,rfl⟩
 have hll:l.length≤140737488355328:=by have:=zgh ts; omega
 have HV:=Lib.hid hv;have HT:=Lib.hid hT;clear hv hT
 go_enter Tryz.func18,Tryz.ntmps18
 go_wp2
 go_loopw [8] (fun i wr=>∃k:Nat,k≤l.length∧i=.int .i64 k∧Lib.IsBuilder 84 5 w.heap.size w.heap.size (Lib.byteCells (texJ (ts.take k))) wr∧Below w.heap.size w wr) (fun i _=>l.length - (Lib.intOf i).toNat)
 case atStart=>
  exact ⟨0,by omega,rfl,by simpa [texJ,Lib.byteCells] using Lib.fresh_isBuilder 84 5 w,(Below.refl _ w).alloc (Nat.le_refl _) _⟩
 case round=>
  obtain ⟨k,hk,rfl,hI,hb⟩:=hrel;have hsz:w.heap.size≤wr.heap.size:=hb.size
  by_cases hlt':k<l.length
  ·have hv:=HV.out
   obtain ⟨g,off,c,t,fr,rfl,hS1,hc,hr⟩:∃g off c t fr,base=some (⟨g,off,none⟩:Addr)∧S g∧w.heap[g]?=some (.cells c t fr)∧RdL (Rd S w KAns) l ((c.toList.drop off).take (l.length*35)):=by
    rcases VRd.sl.1 hv with ⟨h1,rfl⟩ | ⟨g,off,cap',c,t,fr,h1,_,h3,h4,h5⟩ | ⟨a0,h1,rfl⟩
    rotate_left 2
    ·simp at hlt'
    ·simp at hlt'
    ·cases h1
     exact ⟨g,off,c,t,fr,rfl,h3,h4,h5⟩
   have hkl:k<l.length:=by omega
   obtain ⟨c1,cs,c3,ee,hl1,hr2,_⟩:=RdL.nth (Rd.length KAns) k KAns.zero hr hkl;have hcl:cs.length=35:=Rd.length KAns _ cs hr2;have hone:∀u∈cs,u.oneCell'=true:=Rd.one KAns _ cs hr2;have hgw:∀b,S b→wr.heap[b]?=w.heap[b]?:=fun b hb'=>hb.block b (hS.1 b hb')
   have hia:∀W,(Instr.indexAt 39 (.slice (some ⟨g,off,none⟩) l.length cap) (.int .i64 k)).run Tryz.prog W=.ok (.pointer (some ⟨g,off+k*35,none⟩)) W:=fun W=>by
    simp [Instr.indexAt,asIntOf,run_underlying Tryz.underlying39,Tryz.sizeOf52,Go.PG.add_eq];intro h;omega
   have hl1:=Lib.hid (Xf (P:=Tryz.prog) (W:=wr) (t:=52) (off:=off+k*35) (Tryz.isAgg52 _) (by rw [hcl]; exact Tryz.sizeOf52 _) ((hgw g hS1).trans hc) (by
    intro j v hj;have h1:=Dl rfl (c:=c) (off:=off) (n:=l.length*35) (k*35+j) v;rw [ee] at h1;rw [Nat.add_assoc];refine h1 ?_;have e35:KAns.size=35:=rfl;rw [e35] at hl1;rw [List.append_assoc,List.getElem?_append_right (by omega),hl1,Nat.add_sub_cancel_left,List.getElem?_append_left (List.getElem?_eq_some_iff.1 hj).1];exact hj))
   have hst:=Lib.hid (fun (z:Array Value) (hz:z.size=35)=>T0 (P:=Tryz.prog) (W:=wr) (t:=52) (z:=z) (cs:=cs.toArray) (by simp [hz,hcl]) (by simpa using hone) (by intro W; simp only [List.size_toArray,hcl]; exact Tryz.sizeOf52 _));have e35:cs.toArray.size=35:=by simp [hcl]
   have hl2:=Lib.hid (fun (z:Array Value) (_:z.size=35)=>Ny (P:=Tryz.prog) (W:=(wr.alloc (.cells z 52)).setRow wr.heap.size cs.toArray) (t:=52) (g:=wr.heap.size) (cs:=cs.toArray) (ty:=52) (fr:=(0,0)) (Tryz.isAgg52 _) (by rw [e35]; exact Tryz.sizeOf52 _) (setRow_heap _ _ z _ 52 (0,0) (heap_alloc_new wr _)));have hbn:∀z:Array Value,Below wr.heap.size wr ((wr.alloc (.cells z 52)).setRow wr.heap.size cs.toArray):=fun z=>
    ⟨rfl,rfl,rfl,by rw [setRow_size]; simp,fun j hj=>by rw [setRow_other _ _ _ _ (by omega)]; exact heap_alloc_old wr _ hj⟩
   have hts:(ts.getD k ByteArray.empty).size+1≤140737488355328∧(texJ (ts.take k)).length+((ts.getD k ByteArray.empty).size+1)≤140737488355328:=by
    have h1:=texJ_le ts (k+1);rw [Tl (show k<ts.length by omega)] at h1;simp only [List.length_append,List.length_singleton,zxn] at h1;omega
   have htk:=Tl (show k<ts.length by omega);have hc16:=Lib.hid (fun (z:Array Value) (_:z.size=35)=>show Calls Tryz.prog 16 #[.agg cs.toArray] ((wr.alloc (.cells z 52)).setRow wr.heap.size cs.toArray) fun e w'=>e=.returned (.string (ts.getD k ByteArray.empty))∧Below wr.heap.size wr w' from by
    have hb2:=hb.trans ((hbn z).mono hsz);have hs2:∀b,S b→S b∧((wr.alloc (.cells z 52)).setRow wr.heap.size cs.toArray).heap[b]?=w.heap[b]?:=fun b hb'=>⟨hb',hb2.block b (hS.1 b hb')⟩
    have hSOK:ShOK S ((wr.alloc (.cells z 52)).setRow wr.heap.size cs.toArray):=⟨fun b hb'=>Nat.lt_of_lt_of_le (hS.1 b hb') hb2.size,hS.2.mono hs2⟩
    have hk2:l.getD k KAns.zero=l[k]:=by simp [hkl]
    have hA:ArgsG S ((wr.alloc (.cells z 52)).setRow wr.heap.size cs.toArray) [.val KAns l[k]] [] [.agg cs.toArray]:=⟨_,_,rfl,⟨cs,by rw [←hk2]; exact Rd.mono hs2 KAns _ cs hr2,rfl⟩,rfl,rfl⟩
    have hE:zdl Tryz.prog 16 [.val KAns l[k]] [.val .str (ts.getD k ByteArray.empty)] []:=by
     rcases HT.out k hkl with hE | ⟨_,hV⟩
     ·exact hE
     ·obtain ⟨v,w',h1,_⟩:=hV _ S _ hSOK hA
      rw [Go.PG.enters Tryz.func16 (by kernel_rfl) (by kernel_rfl)] at h1;cases h1
    have:=hE.2 _ S [] [.agg cs.toArray] hSOK (by simp) hA;refine this.mono ?_;intro e w' he;cases e with
    | panicked _=>exact he.elim
    | outgrown=>exact he.elim
    | returned u=>
     obtain ⟨S',vs,gs,rfl,_,_,hfr,hres,_,_⟩:=he;obtain ⟨v1,vs',rfl,hv1,e1⟩:=hres;obtain ⟨rfl,_⟩:=e1;refine ⟨congrArg Ending.returned (VRd.str.1 hv1),?_⟩;have hb3:Below ((wr.alloc (.cells z 52)).setRow wr.heap.size cs.toArray).heap.size _ w':=⟨hfr.os,hfr.tape,hfr.output,hfr.size,fun k hk=>hfr.block k hk (fun e he=>by cases he) id⟩
     exact (hbn z).trans (hb3.mono (hbn z).size))
   generalize ts.getD k ByteArray.empty=s at hts hc16 htk
   go_wp2_with (first | (refine R4 (t:=52) (p:=.tmp 10) rfl rfl hl1.out ?_) | (refine zgj (t:=52) (p:=.tmp 5) (x:=.tmp 11) rfl rfl (hst.out _ rfl) ?_) | (refine R4 (t:=52) (p:=.tmp 5) rfl rfl (hl2.out _ rfl) ?_) | (go_at_call 16; refine (hc16.out _ rfl).mono ?_))
   rintro e W2 ⟨rfl,b2⟩
   have hI2:=Ve hI (w':=W2) (fun j hj=>b2.block j hj)
   go_wp2_with (go_at_call 43; refine (Tryz.Builder_WriteString w.heap.size w.heap.size _ _ W2 hI2 (by rw [Lib.byteCells_length,ByteArray.size_append]; show _+(_+1)≤_; omega) (Nat.le_trans hsz b2.size)).mono ?_)
   rintro e W3 ⟨rfl,h3,b3⟩
   go_wp2
   go_roundw
   case rel=>
    refine ⟨k+1,by omega,by simp,Or.inr ?_,(hb.trans (b2.mono hsz)).trans b3⟩;rw [htk,List.append_assoc,Lib.byteCells_append];rw [Lib.strCells_eq,zk4] at h3;exact h3
   case measure=>simp [Lib.intOf]; omega
  ·have hkn:k=l.length:=by omega
   rw [List.take_of_length_le (by omega)] at hI;subst hkn
   go_wp2_with (go_at_call 44; refine (Tryz.Builder_String_any w.heap.size w.heap.size _ _ hI hsz).mono ?_)
   rintro e W1 ⟨rfl,b1⟩
   go_wp2
   go_ret
   exact ⟨rfl,hb.trans b1⟩
end
end Go.Proofs
namespace Go.PG
open Go.Proofs Go.RowKit
theorem tabL_is:tabL=Lib.pow10Tab:=by decide+kernel
theorem zb6 {S:Nat→Prop} {w:World} (h:ShOK S w):Lib.TabIs Tryz.prog w "internal/strconv.uint64pow10" .u64 Lib.pow10Tab:=by
 obtain ⟨_,t,fr,hc⟩:=h.2 0 rfl;have hg:Tryz.prog.globalNamed "internal/strconv.uint64pow10"=some 0:=by kernel_rfl
 unfold Lib.TabIs World.var?;rw [hg,←tabL_is];show (match w.heap[0]? with | some (.cells cs _ _)=>some cs | _=>none)=_
 rw [hc]
theorem Pz {w w':World} (h:Below w.heap.size w w'):Fz w [] w':=⟨h.os,h.tape,h.output,h.size,fun b hb _ _=>h.block b hb,fun e he=>by cases he⟩
theorem Hk {f:FuncId} {az:List AV} {s:ByteArray} (hent:∀args w,(callFunc f args).run Tryz.prog w=.ok (.enter f args) w) (hpp:∀S w pp vs,ArgsG S w az pp vs→pp=[])
  (h:∀(w:World) (S:Nat→Prop) (vs:List Value),ShOK S w→ArgsG S w az [] vs→Calls Tryz.prog f vs.toArray w fun e w'=>e=.returned (.string s)∧Below w.heap.size w w'):zdl Tryz.prog f az [.val .str s] []:=by
 refine ⟨hent,fun w S pp vs hS _ hA=>?_⟩;have:=hpp S w pp vs hA;subst this;refine (h w S vs hS hA).mono ?_
 rintro e w' ⟨rfl,hb⟩
 exact ⟨S,[.string s],[],rfl,fun _ h=>h,fun b hb'=>⟨Nat.lt_of_lt_of_le (hS.1 b hb') hb.size,.inl hb'⟩,Pz hb,⟨.string s,[],rfl,VRd.str.2 rfl,rfl,rfl⟩,List.nodup_nil,rfl⟩
theorem zg7 {k:Kd} {x:k.T}:∀S w pp vs,ArgsG S w [.val k x] pp vs→pp=[]:=fun _ _ _ _ h=>by
 obtain ⟨_,_,_,_,h2⟩:=h;exact h2.1
theorem zg6 {k k':Kd} {x:k.T} {y:k'.T}:∀S w pp vs,ArgsG S w [.val k x,.val k' y] pp vs→pp=[]:=fun _ _ _ _ h=>by
 obtain ⟨_,_,_,_,_,_,_,_,h2⟩:=h;exact h2.1
def zjl (R:Type) (n:Int) (k:ByteArray→Option R):Option R:=match decide (-9223372036854775808≤n∧n≤9223372036854775807) with
 | true=>k ⟨(Lib.itoa n).toArray⟩
 | false=>none
theorem itoa_ok:(eV 38 [(.int .i64)] [.str] zjl).OK Tryz.prog:=by
 intro R x k r h;obtain ⟨n,u⟩:=x;have h':zjl R n (fun s=>k (s,()) ())=some r:=h;unfold zjl at h';split at h'<;>try (cases h'; done)
 rename_i hd;obtain ⟨h0,h1⟩:=of_decide_eq_true hd;refine ⟨(⟨(Lib.itoa n).toArray⟩,()),(),.inl (Hk (az:=[.val (.int .i64) n]) (enters Tryz.func38 (by kernel_rfl) (by kernel_rfl)) zg7 fun w S vs hS hA=>?_),h'⟩;obtain ⟨v,vs',rfl,hv,_,rfl⟩:=hA;rw [VRd.int.1 hv];refine (Tryz.strconv_Itoa n h0 h1 w (zb6 hS)).mono ?_
 rintro e w' ⟨rfl,k,os,rfl⟩
 exact ⟨rfl,Tryz.below_drew_grow w os k⟩
def zex (R:Type) (n b:Int) (k:ByteArray→Option R):Option R:=match decide (0≤n∧n<18446744073709551616∧b=10) with
 | true=>k ⟨(Lib.decDigits n.toNat).toArray⟩
 | false=>none
theorem fmtu_ok:(eV 40 [(.int .u64),(.int .i64)] [.str] zex).OK Tryz.prog:=by
 intro R x k r h;obtain ⟨n,b,u⟩:=x;have h':zex R n b (fun s=>k (s,()) ())=some r:=h;unfold zex at h';split at h'<;>try (cases h'; done)
 rename_i hd;obtain ⟨h0,h1,rfl⟩:=of_decide_eq_true hd;refine ⟨(⟨(Lib.decDigits n.toNat).toArray⟩,()),(),.inl (Hk (az:=[.val (.int .u64) n,.val (.int .i64) 10]) (enters Tryz.func40 (by kernel_rfl) (by kernel_rfl)) zg6 fun w S vs hS hA=>?_),h'⟩;obtain ⟨v,vs1,rfl,hv,v2,vs2,rfl,hv2,_,rfl⟩:=hA;rw [VRd.int.1 hv,VRd.int.1 hv2];have e:n=(Int.toNat n:Int):=(Int.toNat_of_nonneg h0).symm;have h3:(Int.toNat n:Int)<18446744073709551616:=by rw [←e]; exact h1
 have:=Tryz.strconv_FormatUint (Int.toNat n) (by omega) w (zb6 hS);rw [←e] at this;exact this
def zjj (R:Type) (l:List ByteArray) (sep:ByteArray) (k:ByteArray→Option R):Option R:=match decide ((Lib.join (l.map (·.data.toList)) sep.data.toList).length≤140737488355328∧l.length≤140737488355328) with
 | true=>k ⟨(Lib.join (l.map (·.data.toList)) sep.data.toList).toArray⟩
 | false=>none
theorem join_ok:(eV 39 [(.sl .str),.str] [.str] zjj).OK Tryz.prog:=by
 intro R x k r h;obtain ⟨l,sep,u⟩:=x;have h':zjj R l sep (fun s=>k (s,()) ())=some r:=h;unfold zjj at h';split at h'<;>try (cases h'; done)
 rename_i hd;obtain ⟨h0,h1⟩:=of_decide_eq_true hd;refine ⟨(⟨(Lib.join (l.map (·.data.toList)) sep.data.toList).toArray⟩,()),(),.inl (Hk (az:=[.val (.sl .str) l,.val .str sep]) (enters Tryz.func39 (by kernel_rfl) (by kernel_rfl)) zg6 fun w S vs hS hA=>?_),h'⟩;obtain ⟨v,vs1,rfl,hv,v2,vs2,rfl,hv2,_,rfl⟩:=hA;rw [VRd.str.1 hv2];rcases VRd.sl.1 hv with ⟨rfl,rfl⟩ | ⟨g,off,cap,c,t,fr,rfl,hcap,hS1,hc,hr⟩ | ⟨a0,rfl,rfl⟩
 rotate_left 2
 ·refine (Tryz.strings_Join_none (some a0) 0 sep w).mono ?_
  rintro e w' ⟨rfl,rfl⟩
  exact ⟨rfl,Below.refl _ _⟩
 ·refine (Tryz.strings_Join_none none 0 sep w).mono ?_
  rintro e w' ⟨rfl,rfl⟩
  exact ⟨rfl,Below.refl _ _⟩
 ·refine Tryz.strings_Join g off cap l sep w (fun j x hj=>?_) (hS.1 g hS1) h1 hcap h0
  rw [cell_of_row w g (off+j) c t fr hc];have hjl:j<l.length:=(List.getElem?_eq_some_iff.1 hj).1;obtain ⟨c1,c2,c3,ee,hl1,hr2,_⟩:=RdL.nth (Rd.length .str) j ByteArray.empty hr hjl;have hx:l.getD j ByteArray.empty=x:=by rw [List.getD_eq_getElem?_getD,hj]; rfl
  have h2:c2=[.string x]:=by rw [←hx]; exact hr2
  subst h2;refine Dl rfl (c:=c) (off:=off) (n:=l.length*1) j _ ?_;have ee':(c.toList.drop off).take (l.length*1)=c1++[.string x]++c3:=ee;have hl1':c1.length=j*1:=hl1;rw [ee',List.append_assoc,List.getElem?_append_right (by omega)];have:j - c1.length=0:=by omega
  rw [this];rfl
def zgg (R:Type) (h:List Int) (k:ByteArray→Option R):Option R:=match decide (h.length=32)&&h.all fun x=>decide (0≤x∧x<256) with
 | true=>k ⟨(hexT h).toArray⟩
 | false=>none
theorem text_ok:(eV 42 [(.arr 32 (.int .u8))] [.str] zgg).OK Tryz.prog:=by
 intro R x k r h;obtain ⟨hs,u⟩:=x;have h':zgg R hs (fun s=>k (s,()) ())=some r:=h;unfold zgg at h';split at h'<;>try (cases h'; done)
 rename_i hd;rw [Bool.and_eq_true,List.all_eq_true] at hd;have hl:=of_decide_eq_true hd.1;have hu:∀x∈hs,0≤x∧x<256:=fun x hx=>of_decide_eq_true (hd.2 x hx)
 refine ⟨(⟨(hexT hs).toArray⟩,()),(),.inl (Hk (az:=[.val (.arr 32 (.int .u8)) hs]) (enters Tryz.func42 (by kernel_rfl) (by kernel_rfl)) zg7 fun w S vs hS hA=>?_),h'⟩;obtain ⟨v,vs',rfl,⟨cs,⟨_,hr⟩,rfl⟩,_,rfl⟩:=hA;have key:∀(l:List Int) (cs:List Value),RdL (fun x cs=>cs=[Value.int .u8 x]) l cs→cs=l.map (Value.int .u8):=by
  intro l
  induction l with
  | nil=>intro cs h; exact h
  | cons x l ih=>
   intro cs h;obtain ⟨a,b,e,h1,h2⟩:=h;rw [e,h1,ih b h2];rfl
 have hcs:=key hs cs hr;subst hcs;exact Tryz.sha_Text _ hs hl (fun i hi=>by simp [show i<hs.length by omega]) (by simp [hl]) hu w
def Ik (F:(R:Type)→KAns.T→(ByteArray→Option R)→Option R) (R:Type):List KAns.T→Nat→List ByteArray→(ByteArray→Option R)→Option R
 | [],_,ts,k=>k ⟨(texJ ts).toArray⟩
 | a::l,n,ts,k=>F R a fun s=>match decide (n+s.size+1≤140737488355328) with
  | true=>Ik F R l (n+s.size+1) (ts++[s]) k
  | false=>none
theorem Ns {F:(R:Type)→KAns.T→(ByteArray→Option R)→Option R} (hF:(eV 16 [KAns] [.str] F).OK Tryz.prog) {R:Type} {k:ByteArray→Option R} {r:R}:∀(l:List KAns.T) (n:Nat) (ts:List ByteArray),n=(texJ ts).length→Ik F R l n ts k=some r→
  ∃us:List ByteArray,us.length=l.length∧(∀(i:Nat) (h:i<l.length),Holds Tryz.prog 16 [.val KAns l[i]] [.val .str (us.getD i ByteArray.empty)] [])∧((texJ (ts++us)).length≤140737488355328∨us=[])∧k ⟨(texJ (ts++us)).toArray⟩=some r
 | [],n,ts,_,h=>⟨[],rfl,fun i h=>absurd h (by simp),.inr rfl,by rw [List.append_nil]; exact h⟩
 | a::l,n,ts,hn,h=>by
  simp only [Ik] at h;obtain ⟨g,hg⟩:∃g:ByteArray→Option R,g=fun s=>match decide (n+s.size+1≤140737488355328) with | true=>Ik F R l (n+s.size+1) (ts++[s]) k | false=>none:=⟨_,rfl⟩
  rw [←hg] at h;obtain ⟨y,p,hH,hk⟩:=hF R (a,()) (fun y _=>g y.1) r h;obtain ⟨s,hs⟩:∃s:ByteArray,s=y.1:=⟨_,rfl⟩
  have hk:g s=some r:=by rw [hs]; exact hk
  rw [hg] at hk;simp only at hk;split at hk<;>try (cases hk; done)
  rename_i hd;have hd':=of_decide_eq_true hd;have hH':Holds Tryz.prog 16 [.val KAns a] [.val .str s] []:=by subst hs; exact hH
  have hn':n+s.size+1=(texJ (ts++[s])).length:=by
   rw [E3,List.length_append];simp only [texJ,List.length_append,List.length_cons,List.length_nil,zxn];omega
  obtain ⟨us,h1,h2,h3,h4⟩:=Ns hF l _ _ hn' hk;rw [List.append_assoc,List.singleton_append] at h3 h4;refine ⟨s::us,by simp [h1],fun i hi=>?_,.inl ?_,h4⟩
  ·cases i with
   | zero=>exact hH'
   | succ i=>exact h2 i (by simpa using hi)
  ·rcases h3 with h3 | rfl
   ·exact h3
   ·omega
theorem zr2 {F:(R:Type)→KAns.T→(ByteArray→Option R)→Option R} (hF:(eV 16 [KAns] [.str] F).OK Tryz.prog):(eV 18 [(.sl KAns)] [.str] (fun R l k=>Ik F R l 0 [] k)).OK Tryz.prog:=by
 intro R x k r h;obtain ⟨l,u⟩:=x;have h':Ik F R l 0 [] (fun s=>k (s,()) ())=some r:=h;obtain ⟨us,h1,h2,h3,h4⟩:=Ns hF l 0 [] rfl h';rw [List.nil_append] at h3 h4;refine ⟨(⟨(texJ us).toArray⟩,()),(),.inl (Hk (az:=[.val (.sl KAns) l]) (enters Tryz.func18 (by kernel_rfl) (by kernel_rfl)) zg7 fun w S vs hS hA=>?_),h4⟩;obtain ⟨v,vs',rfl,hv,_,rfl⟩:=hA;exact Tryz.script_Texts S w hS l us v hv h1 h2 (h3.elim id fun e=>by rw [e]; exact Nat.zero_le _)
end Go.PG
set_option maxRecDepth 100000
namespace Go.PG
open Go.Proofs
abbrev LI:=List Int
abbrev Kq1:Kd:=(.pair .bool (.pair (.arr 32 (.int .u8)) .unit))
abbrev Tq1:Type:=(Bool×(LI×Unit))
abbrev Kq2:Kd:=(.pair (.arr 32 (.int .u8)) Kq1)
abbrev Tq2:Type:=(LI×Tq1)
abbrev Kq3:Kd:=(.pair (.int .i64) Kq2)
abbrev Tq3:Type:=(Int×Tq2)
abbrev Kq4:Kd:=(.pair (.int .u64) (.pair (.int .u64) .unit))
abbrev Tq4:Type:=(Int×(Int×Unit))
abbrev Kq5:Kd:=(.pair (.arr 32 (.int .u8)) Kq4)
abbrev Tq5:Type:=(LI×Tq4)
abbrev Kq6:Kd:=(.pair .fn (.pair .fn .unit))
abbrev Tq6:Type:=(FnV×(FnV×Unit))
abbrev Kq7:Kd:=(.pair (.int .i64) Kq6)
abbrev Tq7:Type:=(Int×Tq6)
abbrev Kq8:Kd:=(.pair (.arr 32 (.int .u8)) (.pair (.int .i64) .unit))
abbrev Tq8:Type:=(LI×(Int×Unit))
abbrev Kq9:Kd:=(.pair (.int .u64) Kq8)
abbrev Tq9:Type:=(Int×Tq8)
abbrev Kq10:Kd:=(.pair (.int .i64) Kq9)
abbrev Tq10:Type:=(Int×Tq9)
abbrev Kq11:Kd:=(.pair (.int .i64) Kq10)
abbrev Tq11:Type:=(Int×Tq10)
abbrev Tq12:Type:=(LI×Int)
abbrev Kq13:Kd:=(.pair (.int .u64) (.pair (.int .i64) .unit))
abbrev Tq13:Type:=(Int×(Int×Unit))
abbrev Tq14:Type:=(Int×FnV)
abbrev Kq15:Kd:=(.pair (.sl (.int .i64)) (.pair (.arr 32 (.int .u8)) .unit))
abbrev Tq15:Type:=(LI×(LI×Unit))
abbrev Kq16:Kd:=(.pair (.int .u64) Kq15)
abbrev Tq16:Type:=(Int×Tq15)
abbrev Kq17:Kd:=(.pair (.int .i64) Kq16)
abbrev Tq17:Type:=(Int×Tq16)
abbrev Kq18:Kd:=(.pair (.int .i64) (.pair (.int .i64) .unit))
abbrev Tq18:Type:=(Int×(Int×Unit))
abbrev Kq19:Kd:=(.pair (.int .i64) Kq18)
abbrev Tq19:Type:=(Int×Tq18)
abbrev Kq20:Kd:=(.pair (.int .i64) Kq19)
abbrev Tq20:Type:=(Int×Tq19)
abbrev Kq21:Kd:=(.pair (.int .i64) Kq20)
abbrev Tq21:Type:=(Int×Tq20)
abbrev Kq22:Kd:=(.pair (.arr 32 (.int .u8)) (.pair (.sl Kq3) .unit))
abbrev Tq22:Type:=(LI×((List Tq3)×Unit))
abbrev Kq23:Kd:=(.pair (.arr 32 (.int .u8)) Kq22)
abbrev Tq23:Type:=(LI×Tq22)
abbrev Kq24:Kd:=(.pair (.int .u64) Kq23)
abbrev Tq24:Type:=(Int×Tq23)
abbrev Kq25:Kd:=(.pair (.sl (.int .i64)) (.pair (.sl (.int .i64)) .unit))
abbrev Tq25:Type:=(LI×(LI×Unit))
abbrev Kq26:Kd:=(.pair Kq24 Kq25)
abbrev Tq26:Type:=(Tq24×Tq25)
abbrev Kq27:Kd:=(.pair (.sl Kq5) Kq26)
abbrev Tq27:Type:=((List Tq5)×Tq26)
abbrev Kq28:Kd:=(.pair (.int .i64) Kq27)
abbrev Tq28:Type:=(Int×Tq27)
abbrev Kq29:Kd:=(.pair Kq21 Kq28)
abbrev Tq29:Type:=(Tq21×Tq28)
abbrev Kq30:Kd:=(.pair Kq17 .unit)
abbrev Tq30:Type:=(Tq17×Unit)
abbrev Kq31:Kd:=(.pair Kq29 Kq30)
abbrev Tq31:Type:=(Tq29×Tq30)
abbrev Kq32:Kd:=(.pair (.sl (.int .u8)) (.pair (.int .u64) .unit))
abbrev Tq32:Type:=(LI×(Int×Unit))
abbrev Kq33:Kd:=(.pair (.arr 8 (.int .u32)) Kq32)
abbrev Tq33:Type:=(LI×Tq32)
abbrev Kq34:Kd:=(.pair Kq33 .unit)
abbrev Tq34:Type:=(Tq33×Unit)
abbrev Kq35:Kd:=(.pair (.arr 32 (.int .u8)) (.pair (.arr 32 (.int .u8)) .unit))
abbrev Tq35:Type:=(LI×(LI×Unit))
abbrev Kq36:Kd:=(.pair (.arr 32 (.int .u8)) Kq35)
abbrev Tq36:Type:=(LI×Tq35)
abbrev Kq37:Kd:=(.pair (.int .u64) Kq36)
abbrev Tq37:Type:=(Int×Tq36)
abbrev Kq38:Kd:=(.pair (.int .u64) Kq5)
abbrev Tq38:Type:=(Int×Tq5)
abbrev Kq39:Kd:=(.pair (.sl (.int .u8)) Kq38)
abbrev Tq39:Type:=(LI×Tq38)
abbrev Kq40:Kd:=(.pair (.int .i64) Kq39)
abbrev Tq40:Type:=(Int×Tq39)
abbrev Kq41:Kd:=(.pair (.int .u64) (.pair .bool .unit))
abbrev Tq41:Type:=(Int×(Bool×Unit))
abbrev Kq42:Kd:=(.pair (.arr 32 (.int .u8)) Kq41)
abbrev Tq42:Type:=(LI×Tq41)
abbrev Kq43:Kd:=(.pair Kq40 Kq42)
abbrev Tq43:Type:=(Tq40×Tq42)
abbrev Kq44:Kd:=(.pair (.int .u64) (.pair (.sl Kq13) .unit))
abbrev Tq44:Type:=(Int×((List Tq13)×Unit))
abbrev Kq45:Kd:=(.pair (.sl (.int .u64)) Kq25)
abbrev Kq46:Kd:=(.pair Kq44 Kq45)
abbrev Tq47:Type:=(Int×Tq24)
abbrev Tq48:Type:=(Int×Tq47)
abbrev Tq49:Type:=(Int×Tq48)
abbrev Tq50:Type:=(Int×Tq49)
abbrev Tq51:Type:=(Int×Tq50)
abbrev Tq52:Type:=(Int×Tq51)
abbrev Kq53:Kd:=(.pair Kq17 (.pair .bool .unit))
def TT:Tab:=[
 (3,⟨.int .i64,1,8,some (.int .i64)⟩),
 (4,⟨.bool,1,1,some .bool⟩),
 (5,⟨.int .u8,1,1,some (.int .u8)⟩),
 (9,⟨.string,1,16,some .str⟩),
 (22,⟨.array 5 5,5,5,some (.arr 5 (.int .u8))⟩),
 (24,⟨.array 32 5,32,32,some (.arr 32 (.int .u8))⟩),
 (25,⟨.slice 5,1,24,some (.sl (.int .u8))⟩),
 (27,⟨.slice 69,1,24,some (.sl Kq11)⟩),
 (30,⟨.struct #[{name:= "Slots",type:=3,offset:=0,embedded:=false,tag:= "",pkgPath:= "",byteOffset:=0},{name:= "Commit",type:=3,offset:=1,embedded:=false,tag:= "",pkgPath:= "",byteOffset:=8},{name:= "Reveal",type:=3,offset:=2,embedded:=false,tag:= "",pkgPath:= "",byteOffset:=16},{name:= "Attempts",type:=3,offset:=3,embedded:=false,tag:= "",pkgPath:= "",byteOffset:=24},{name:= "Most",type:=3,offset:=4,embedded:=false,tag:= "",pkgPath:= "",byteOffset:=32}],5,40,some Kq21⟩),
 (31,⟨.slice 113,1,24,some (.sl Kq5)⟩),
 (32,⟨.int .u64,1,8,some (.int .u64)⟩),
 (33,⟨.slice 159,1,24,some (.sl Kq3)⟩),
 (35,⟨.struct #[{name:= "Epoch",type:=32,offset:=0,embedded:=false,tag:= "",pkgPath:= "",byteOffset:=0},{name:= "Seed",type:=24,offset:=1,embedded:=false,tag:= "",pkgPath:= "",byteOffset:=8},{name:= "Mix",type:=24,offset:=33,embedded:=false,tag:= "",pkgPath:= "",byteOffset:=40},{name:= "Commits",type:=33,offset:=65,embedded:=false,tag:= "",pkgPath:= "",byteOffset:=72}],66,96,some Kq24⟩),
 (36,⟨.slice 3,1,24,some (.sl (.int .i64))⟩),
 (38,⟨.struct #[{name:= "Config",type:=30,offset:=0,embedded:=false,tag:= "",pkgPath:= "",byteOffset:=0},{name:= "Slot",type:=3,offset:=5,embedded:=false,tag:= "",pkgPath:= "",byteOffset:=40},{name:= "Vals",type:=31,offset:=6,embedded:=false,tag:= "",pkgPath:= "",byteOffset:=48},{name:= "Beacon",type:=35,offset:=7,embedded:=false,tag:= "",pkgPath:= "",byteOffset:=72},{name:= "Leaders",type:=36,offset:=73,embedded:=false,tag:= "",pkgPath:= "",byteOffset:=168},{name:= "Missed",type:=36,offset:=74,embedded:=false,tag:= "",pkgPath:= "",byteOffset:=192}],75,216,some Kq29⟩),
 (39,⟨.slice 52,1,24,some (.sl Kq17)⟩),
 (40,⟨.int .i64,1,8,some (.int .i64)⟩),
 (47,⟨.int .u32,1,4,some (.int .u32)⟩),
 (52,⟨.struct #[{name:= "Err",type:=40,offset:=0,embedded:=false,tag:= "",pkgPath:= "",byteOffset:=0},{name:= "N",type:=32,offset:=1,embedded:=false,tag:= "",pkgPath:= "",byteOffset:=8},{name:= "Who",type:=36,offset:=2,embedded:=false,tag:= "",pkgPath:= "",byteOffset:=16},{name:= "Hash",type:=24,offset:=3,embedded:=false,tag:= "",pkgPath:= "",byteOffset:=40}],35,72,some Kq17⟩),
 (69,⟨.struct #[{name:= "Kind",type:=3,offset:=0,embedded:=false,tag:= "",pkgPath:= "",byteOffset:=0},{name:= "Who",type:=3,offset:=1,embedded:=false,tag:= "",pkgPath:= "",byteOffset:=8},{name:= "Amount",type:=32,offset:=2,embedded:=false,tag:= "",pkgPath:= "",byteOffset:=16},{name:= "Hash",type:=24,offset:=3,embedded:=false,tag:= "",pkgPath:= "",byteOffset:=24},{name:= "N",type:=3,offset:=35,embedded:=false,tag:= "",pkgPath:= "",byteOffset:=56}],36,64,some Kq11⟩),
 (81,⟨.slice 9,1,24,some (.sl .str)⟩),
 (97,⟨.slice 100,1,24,some (.sl Kq37)⟩),
 (100,⟨.struct #[{name:= "Epoch",type:=32,offset:=0,embedded:=false,tag:= "",pkgPath:= "",byteOffset:=0},{name:= "Seed",type:=24,offset:=1,embedded:=false,tag:= "",pkgPath:= "",byteOffset:=8},{name:= "Mix",type:=24,offset:=33,embedded:=false,tag:= "",pkgPath:= "",byteOffset:=40},{name:= "Next",type:=24,offset:=65,embedded:=false,tag:= "",pkgPath:= "",byteOffset:=72}],97,104,some Kq37⟩),
 (102,⟨.array 8 5,8,8,some (.arr 8 (.int .u8))⟩),
 (106,⟨.array 4 5,4,4,some (.arr 4 (.int .u8))⟩),
 (113,⟨.struct #[{name:= "Key",type:=24,offset:=0,embedded:=false,tag:= "",pkgPath:= "",byteOffset:=0},{name:= "Stake",type:=32,offset:=32,embedded:=false,tag:= "",pkgPath:= "",byteOffset:=32},{name:= "Next",type:=32,offset:=33,embedded:=false,tag:= "",pkgPath:= "",byteOffset:=40}],34,48,some Kq5⟩),
 (117,⟨.int .u64,1,8,some (.int .u64)⟩),
 (124,⟨.func #[69] #[25] false,1,8,some .fn⟩),
 (126,⟨.func #[188] #[] false,1,8,some .fn⟩),
 (129,⟨.struct #[{name:= "answer",type:=52,offset:=0,embedded:=false,tag:= "",pkgPath:= "drawlot/audit",byteOffset:=0},{name:= "ends",type:=4,offset:=35,embedded:=false,tag:= "",pkgPath:= "drawlot/audit",byteOffset:=72}],36,80,some Kq53⟩),
 (131,⟨.slice 191,1,24,some (.sl (.arr 64 (.int .u8)))⟩),
 (137,⟨.array 8 47,8,32,some (.arr 8 (.int .u32))⟩),
 (143,⟨.slice 148,1,24,some (.sl Kq7)⟩),
 (146,⟨.func #[149,25] #[] false,1,8,some .fn⟩),
 (148,⟨.struct #[{name:= "size",type:=3,offset:=0,embedded:=false,tag:= "",pkgPath:= "drawlot/op",byteOffset:=0},{name:= "put",type:=124,offset:=1,embedded:=false,tag:= "",pkgPath:= "drawlot/op",byteOffset:=8},{name:= "take",type:=146,offset:=2,embedded:=false,tag:= "",pkgPath:= "drawlot/op",byteOffset:=16}],3,24,some Kq7⟩),
 (151,⟨.func #[155,69] #[40] false,1,8,some .fn⟩),
 (153,⟨.map 3 151,1,8,some .mp⟩),
 (157,⟨.struct #[{name:= "Ledger",type:=38,offset:=0,embedded:=true,tag:= "",pkgPath:= "",byteOffset:=0},{name:= "answer",type:=52,offset:=75,embedded:=false,tag:= "",pkgPath:= "drawlot/ledger",byteOffset:=216}],110,288,some Kq31⟩),
 (159,⟨.struct #[{name:= "Who",type:=3,offset:=0,embedded:=false,tag:= "",pkgPath:= "",byteOffset:=0},{name:= "Hash",type:=24,offset:=1,embedded:=false,tag:= "",pkgPath:= "",byteOffset:=8},{name:= "Done",type:=4,offset:=33,embedded:=false,tag:= "",pkgPath:= "",byteOffset:=40},{name:= "Value",type:=24,offset:=34,embedded:=false,tag:= "",pkgPath:= "",byteOffset:=41}],66,80,some Kq3⟩),
 (182,⟨.slice 32,1,24,some (.sl (.int .u64))⟩),
 (189,⟨.slice 24,1,24,some (.sl (.arr 32 (.int .u8)))⟩),
 (191,⟨.array 64 5,64,64,some (.arr 64 (.int .u8))⟩),
 (221,⟨.struct #[{name:= "Tree",type:=182,offset:=0,embedded:=false,tag:= "",pkgPath:= "",byteOffset:=0}],1,24,some (.pair (.sl (.int .u64)) .unit)⟩),
 (225,⟨.struct #[{name:= "Kind",type:=3,offset:=0,embedded:=false,tag:= "",pkgPath:= "",byteOffset:=0},{name:= "Tape",type:=25,offset:=1,embedded:=false,tag:= "",pkgPath:= "",byteOffset:=8},{name:= "Bits",type:=32,offset:=2,embedded:=false,tag:= "",pkgPath:= "",byteOffset:=32},{name:= "Seed",type:=24,offset:=3,embedded:=false,tag:= "",pkgPath:= "",byteOffset:=40},{name:= "Domain",type:=32,offset:=35,embedded:=false,tag:= "",pkgPath:= "",byteOffset:=72},{name:= "At",type:=32,offset:=36,embedded:=false,tag:= "",pkgPath:= "",byteOffset:=80}],37,88,some Kq40⟩),
 (231,⟨.slice 25,1,24,some (.sl (.sl (.int .u8)))⟩),
 (233,⟨.struct #[{name:= "State",type:=137,offset:=0,embedded:=false,tag:= "",pkgPath:= "",byteOffset:=0},{name:= "Rest",type:=25,offset:=8,embedded:=false,tag:= "",pkgPath:= "",byteOffset:=32},{name:= "Bytes",type:=32,offset:=9,embedded:=false,tag:= "",pkgPath:= "",byteOffset:=56}],10,64,some Kq33⟩),
 (239,⟨.array 64 47,64,256,some (.arr 64 (.int .u32))⟩),
 (240,⟨.array 64 47,64,256,some (.arr 64 (.int .u32))⟩),
 (246,⟨.func #[149] #[245] false,1,8,some .fn⟩),
 (265,⟨.slice 300,1,24,some (.sl Kq13)⟩),
 (267,⟨.struct #[{name:= "Total",type:=32,offset:=0,embedded:=false,tag:= "",pkgPath:= "",byteOffset:=0},{name:= "Cells",type:=265,offset:=1,embedded:=false,tag:= "",pkgPath:= "",byteOffset:=8}],2,32,some Kq44⟩),
 (274,⟨.struct #[{name:= "Writer",type:=233,offset:=0,embedded:=true,tag:= "",pkgPath:= "",byteOffset:=0}],10,64,some Kq34⟩),
 (280,⟨.map 24 3,1,8,some .mp⟩),
 (293,⟨.struct #[{name:= "seed",type:=24,offset:=0,embedded:=false,tag:= "",pkgPath:= "drawlot/slots",byteOffset:=0},{name:= "attempts",type:=3,offset:=32,embedded:=false,tag:= "",pkgPath:= "drawlot/slots",byteOffset:=32}],33,40,some Kq8⟩),
 (300,⟨.struct #[{name:= "Cut",type:=32,offset:=0,embedded:=false,tag:= "",pkgPath:= "",byteOffset:=0},{name:= "Alias",type:=3,offset:=1,embedded:=false,tag:= "",pkgPath:= "",byteOffset:=8}],2,16,some Kq13⟩),
 (328,⟨.slice 3,1,24,some (.sl (.int .i64))⟩),
 (330,⟨.struct #[{name:= "Table",type:=267,offset:=0,embedded:=true,tag:= "",pkgPath:= "",byteOffset:=0},{name:= "has",type:=182,offset:=2,embedded:=false,tag:= "",pkgPath:= "drawlot/alias",byteOffset:=32},{name:= "small",type:=328,offset:=3,embedded:=false,tag:= "",pkgPath:= "drawlot/alias",byteOffset:=56},{name:= "large",type:=328,offset:=4,embedded:=false,tag:= "",pkgPath:= "drawlot/alias",byteOffset:=80}],5,104,some Kq46⟩),
 (335,⟨.slice 47,1,24,some (.sl (.int .u32))⟩),
 (351,⟨.struct #[{name:= "Source",type:=225,offset:=0,embedded:=true,tag:= "",pkgPath:= "",byteOffset:=0},{name:= "block",type:=24,offset:=37,embedded:=false,tag:= "",pkgPath:= "drawlot/tape",byteOffset:=88},{name:= "at",type:=32,offset:=69,embedded:=false,tag:= "",pkgPath:= "drawlot/tape",byteOffset:=120},{name:= "some",type:=4,offset:=70,embedded:=false,tag:= "",pkgPath:= "drawlot/tape",byteOffset:=128}],71,136,some Kq43⟩)]
def EQT:List Nat:=[3,24,30,69,113,159]
theorem ty3:TyOK Tryz.prog TT 3 ⟨.int .i64,1,8,some (.int .i64)⟩:=Ao Tryz.underlying3 (by kernel_rfl)
theorem ty4:TyOK Tryz.prog TT 4 ⟨.bool,1,1,some .bool⟩:=Ao Tryz.underlying4 (by kernel_rfl)
theorem ty5:TyOK Tryz.prog TT 5 ⟨.int .u8,1,1,some (.int .u8)⟩:=Ao Tryz.underlying5 (by kernel_rfl)
theorem ty9:TyOK Tryz.prog TT 9 ⟨.string,1,16,some .str⟩:=Ao Tryz.underlying9 (by kernel_rfl)
theorem ty22:TyOK Tryz.prog TT 22 ⟨.array 5 5,5,5,some (.arr 5 (.int .u8))⟩:=Ao Tryz.underlying22 (by kernel_rfl)
theorem ty24:TyOK Tryz.prog TT 24 ⟨.array 32 5,32,32,some (.arr 32 (.int .u8))⟩:=Ao Tryz.underlying24 (by kernel_rfl)
theorem ty25:TyOK Tryz.prog TT 25 ⟨.slice 5,1,24,some (.sl (.int .u8))⟩:=Ao Tryz.underlying25 (by kernel_rfl)
theorem ty27:TyOK Tryz.prog TT 27 ⟨.slice 69,1,24,some (.sl Kq11)⟩:=Ao Tryz.underlying27 (by kernel_rfl)
theorem ty30:TyOK Tryz.prog TT 30 ⟨.struct #[{name:= "Slots",type:=3,offset:=0,embedded:=false,tag:= "",pkgPath:= "",byteOffset:=0},{name:= "Commit",type:=3,offset:=1,embedded:=false,tag:= "",pkgPath:= "",byteOffset:=8},{name:= "Reveal",type:=3,offset:=2,embedded:=false,tag:= "",pkgPath:= "",byteOffset:=16},{name:= "Attempts",type:=3,offset:=3,embedded:=false,tag:= "",pkgPath:= "",byteOffset:=24},{name:= "Most",type:=3,offset:=4,embedded:=false,tag:= "",pkgPath:= "",byteOffset:=32}],5,40,some Kq21⟩:=Ao Tryz.underlying30 (by kernel_rfl)
theorem ty31:TyOK Tryz.prog TT 31 ⟨.slice 113,1,24,some (.sl Kq5)⟩:=Ao Tryz.underlying31 (by kernel_rfl)
theorem ty32:TyOK Tryz.prog TT 32 ⟨.int .u64,1,8,some (.int .u64)⟩:=Ao Tryz.underlying32 (by kernel_rfl)
theorem ty33:TyOK Tryz.prog TT 33 ⟨.slice 159,1,24,some (.sl Kq3)⟩:=Ao Tryz.underlying33 (by kernel_rfl)
theorem ty35:TyOK Tryz.prog TT 35 ⟨.struct #[{name:= "Epoch",type:=32,offset:=0,embedded:=false,tag:= "",pkgPath:= "",byteOffset:=0},{name:= "Seed",type:=24,offset:=1,embedded:=false,tag:= "",pkgPath:= "",byteOffset:=8},{name:= "Mix",type:=24,offset:=33,embedded:=false,tag:= "",pkgPath:= "",byteOffset:=40},{name:= "Commits",type:=33,offset:=65,embedded:=false,tag:= "",pkgPath:= "",byteOffset:=72}],66,96,some Kq24⟩:=Ao Tryz.underlying35 (by kernel_rfl)
theorem ty36:TyOK Tryz.prog TT 36 ⟨.slice 3,1,24,some (.sl (.int .i64))⟩:=Ao Tryz.underlying36 (by kernel_rfl)
theorem ty38:TyOK Tryz.prog TT 38 ⟨.struct #[{name:= "Config",type:=30,offset:=0,embedded:=false,tag:= "",pkgPath:= "",byteOffset:=0},{name:= "Slot",type:=3,offset:=5,embedded:=false,tag:= "",pkgPath:= "",byteOffset:=40},{name:= "Vals",type:=31,offset:=6,embedded:=false,tag:= "",pkgPath:= "",byteOffset:=48},{name:= "Beacon",type:=35,offset:=7,embedded:=false,tag:= "",pkgPath:= "",byteOffset:=72},{name:= "Leaders",type:=36,offset:=73,embedded:=false,tag:= "",pkgPath:= "",byteOffset:=168},{name:= "Missed",type:=36,offset:=74,embedded:=false,tag:= "",pkgPath:= "",byteOffset:=192}],75,216,some Kq29⟩:=Ao Tryz.underlying38 (by kernel_rfl)
theorem ty39:TyOK Tryz.prog TT 39 ⟨.slice 52,1,24,some (.sl Kq17)⟩:=Ao Tryz.underlying39 (by kernel_rfl)
theorem ty40:TyOK Tryz.prog TT 40 ⟨.int .i64,1,8,some (.int .i64)⟩:=Ao Tryz.underlying40 (by kernel_rfl)
theorem ty47:TyOK Tryz.prog TT 47 ⟨.int .u32,1,4,some (.int .u32)⟩:=Ao Tryz.underlying47 (by kernel_rfl)
theorem ty52:TyOK Tryz.prog TT 52 ⟨.struct #[{name:= "Err",type:=40,offset:=0,embedded:=false,tag:= "",pkgPath:= "",byteOffset:=0},{name:= "N",type:=32,offset:=1,embedded:=false,tag:= "",pkgPath:= "",byteOffset:=8},{name:= "Who",type:=36,offset:=2,embedded:=false,tag:= "",pkgPath:= "",byteOffset:=16},{name:= "Hash",type:=24,offset:=3,embedded:=false,tag:= "",pkgPath:= "",byteOffset:=40}],35,72,some Kq17⟩:=Ao Tryz.underlying52 (by kernel_rfl)
theorem ty69:TyOK Tryz.prog TT 69 ⟨.struct #[{name:= "Kind",type:=3,offset:=0,embedded:=false,tag:= "",pkgPath:= "",byteOffset:=0},{name:= "Who",type:=3,offset:=1,embedded:=false,tag:= "",pkgPath:= "",byteOffset:=8},{name:= "Amount",type:=32,offset:=2,embedded:=false,tag:= "",pkgPath:= "",byteOffset:=16},{name:= "Hash",type:=24,offset:=3,embedded:=false,tag:= "",pkgPath:= "",byteOffset:=24},{name:= "N",type:=3,offset:=35,embedded:=false,tag:= "",pkgPath:= "",byteOffset:=56}],36,64,some Kq11⟩:=Ao Tryz.underlying69 (by kernel_rfl)
theorem ty81:TyOK Tryz.prog TT 81 ⟨.slice 9,1,24,some (.sl .str)⟩:=Ao Tryz.underlying81 (by kernel_rfl)
theorem ty97:TyOK Tryz.prog TT 97 ⟨.slice 100,1,24,some (.sl Kq37)⟩:=Ao Tryz.underlying97 (by kernel_rfl)
theorem ty100:TyOK Tryz.prog TT 100 ⟨.struct #[{name:= "Epoch",type:=32,offset:=0,embedded:=false,tag:= "",pkgPath:= "",byteOffset:=0},{name:= "Seed",type:=24,offset:=1,embedded:=false,tag:= "",pkgPath:= "",byteOffset:=8},{name:= "Mix",type:=24,offset:=33,embedded:=false,tag:= "",pkgPath:= "",byteOffset:=40},{name:= "Next",type:=24,offset:=65,embedded:=false,tag:= "",pkgPath:= "",byteOffset:=72}],97,104,some Kq37⟩:=Ao Tryz.underlying100 (by kernel_rfl)
theorem ty102:TyOK Tryz.prog TT 102 ⟨.array 8 5,8,8,some (.arr 8 (.int .u8))⟩:=Ao Tryz.underlying102 (by kernel_rfl)
theorem ty106:TyOK Tryz.prog TT 106 ⟨.array 4 5,4,4,some (.arr 4 (.int .u8))⟩:=Ao Tryz.underlying106 (by kernel_rfl)
theorem ty113:TyOK Tryz.prog TT 113 ⟨.struct #[{name:= "Key",type:=24,offset:=0,embedded:=false,tag:= "",pkgPath:= "",byteOffset:=0},{name:= "Stake",type:=32,offset:=32,embedded:=false,tag:= "",pkgPath:= "",byteOffset:=32},{name:= "Next",type:=32,offset:=33,embedded:=false,tag:= "",pkgPath:= "",byteOffset:=40}],34,48,some Kq5⟩:=Ao Tryz.underlying113 (by kernel_rfl)
theorem ty117:TyOK Tryz.prog TT 117 ⟨.int .u64,1,8,some (.int .u64)⟩:=Ao Tryz.underlying117 (by kernel_rfl)
theorem ty124:TyOK Tryz.prog TT 124 ⟨.func #[69] #[25] false,1,8,some .fn⟩:=Ao Tryz.underlying124 (by kernel_rfl)
theorem ty126:TyOK Tryz.prog TT 126 ⟨.func #[188] #[] false,1,8,some .fn⟩:=Ao Tryz.underlying126 (by kernel_rfl)
theorem ty129:TyOK Tryz.prog TT 129 ⟨.struct #[{name:= "answer",type:=52,offset:=0,embedded:=false,tag:= "",pkgPath:= "drawlot/audit",byteOffset:=0},{name:= "ends",type:=4,offset:=35,embedded:=false,tag:= "",pkgPath:= "drawlot/audit",byteOffset:=72}],36,80,some Kq53⟩:=Ao Tryz.underlying129 (by kernel_rfl)
theorem ty131:TyOK Tryz.prog TT 131 ⟨.slice 191,1,24,some (.sl (.arr 64 (.int .u8)))⟩:=Ao Tryz.underlying131 (by kernel_rfl)
theorem ty137:TyOK Tryz.prog TT 137 ⟨.array 8 47,8,32,some (.arr 8 (.int .u32))⟩:=Ao Tryz.underlying137 (by kernel_rfl)
theorem ty143:TyOK Tryz.prog TT 143 ⟨.slice 148,1,24,some (.sl Kq7)⟩:=Ao Tryz.underlying143 (by kernel_rfl)
theorem ty146:TyOK Tryz.prog TT 146 ⟨.func #[149,25] #[] false,1,8,some .fn⟩:=Ao Tryz.underlying146 (by kernel_rfl)
theorem ty148:TyOK Tryz.prog TT 148 ⟨.struct #[{name:= "size",type:=3,offset:=0,embedded:=false,tag:= "",pkgPath:= "drawlot/op",byteOffset:=0},{name:= "put",type:=124,offset:=1,embedded:=false,tag:= "",pkgPath:= "drawlot/op",byteOffset:=8},{name:= "take",type:=146,offset:=2,embedded:=false,tag:= "",pkgPath:= "drawlot/op",byteOffset:=16}],3,24,some Kq7⟩:=Ao Tryz.underlying148 (by kernel_rfl)
theorem ty151:TyOK Tryz.prog TT 151 ⟨.func #[155,69] #[40] false,1,8,some .fn⟩:=Ao Tryz.underlying151 (by kernel_rfl)
theorem ty153:TyOK Tryz.prog TT 153 ⟨.map 3 151,1,8,some .mp⟩:=Ao Tryz.underlying153 (by kernel_rfl)
theorem ty157:TyOK Tryz.prog TT 157 ⟨.struct #[{name:= "Ledger",type:=38,offset:=0,embedded:=true,tag:= "",pkgPath:= "",byteOffset:=0},{name:= "answer",type:=52,offset:=75,embedded:=false,tag:= "",pkgPath:= "drawlot/ledger",byteOffset:=216}],110,288,some Kq31⟩:=Ao Tryz.underlying157 (by kernel_rfl)
theorem ty159:TyOK Tryz.prog TT 159 ⟨.struct #[{name:= "Who",type:=3,offset:=0,embedded:=false,tag:= "",pkgPath:= "",byteOffset:=0},{name:= "Hash",type:=24,offset:=1,embedded:=false,tag:= "",pkgPath:= "",byteOffset:=8},{name:= "Done",type:=4,offset:=33,embedded:=false,tag:= "",pkgPath:= "",byteOffset:=40},{name:= "Value",type:=24,offset:=34,embedded:=false,tag:= "",pkgPath:= "",byteOffset:=41}],66,80,some Kq3⟩:=Ao Tryz.underlying159 (by kernel_rfl)
theorem ty182:TyOK Tryz.prog TT 182 ⟨.slice 32,1,24,some (.sl (.int .u64))⟩:=Ao Tryz.underlying182 (by kernel_rfl)
theorem ty189:TyOK Tryz.prog TT 189 ⟨.slice 24,1,24,some (.sl (.arr 32 (.int .u8)))⟩:=Ao Tryz.underlying189 (by kernel_rfl)
theorem ty191:TyOK Tryz.prog TT 191 ⟨.array 64 5,64,64,some (.arr 64 (.int .u8))⟩:=Ao Tryz.underlying191 (by kernel_rfl)
theorem ty221:TyOK Tryz.prog TT 221 ⟨.struct #[{name:= "Tree",type:=182,offset:=0,embedded:=false,tag:= "",pkgPath:= "",byteOffset:=0}],1,24,some (.pair (.sl (.int .u64)) .unit)⟩:=Ao Tryz.underlying221 (by kernel_rfl)
theorem ty225:TyOK Tryz.prog TT 225 ⟨.struct #[{name:= "Kind",type:=3,offset:=0,embedded:=false,tag:= "",pkgPath:= "",byteOffset:=0},{name:= "Tape",type:=25,offset:=1,embedded:=false,tag:= "",pkgPath:= "",byteOffset:=8},{name:= "Bits",type:=32,offset:=2,embedded:=false,tag:= "",pkgPath:= "",byteOffset:=32},{name:= "Seed",type:=24,offset:=3,embedded:=false,tag:= "",pkgPath:= "",byteOffset:=40},{name:= "Domain",type:=32,offset:=35,embedded:=false,tag:= "",pkgPath:= "",byteOffset:=72},{name:= "At",type:=32,offset:=36,embedded:=false,tag:= "",pkgPath:= "",byteOffset:=80}],37,88,some Kq40⟩:=Ao Tryz.underlying225 (by kernel_rfl)
theorem ty231:TyOK Tryz.prog TT 231 ⟨.slice 25,1,24,some (.sl (.sl (.int .u8)))⟩:=Ao Tryz.underlying231 (by kernel_rfl)
theorem ty233:TyOK Tryz.prog TT 233 ⟨.struct #[{name:= "State",type:=137,offset:=0,embedded:=false,tag:= "",pkgPath:= "",byteOffset:=0},{name:= "Rest",type:=25,offset:=8,embedded:=false,tag:= "",pkgPath:= "",byteOffset:=32},{name:= "Bytes",type:=32,offset:=9,embedded:=false,tag:= "",pkgPath:= "",byteOffset:=56}],10,64,some Kq33⟩:=Ao Tryz.underlying233 (by kernel_rfl)
theorem ty239:TyOK Tryz.prog TT 239 ⟨.array 64 47,64,256,some (.arr 64 (.int .u32))⟩:=Ao Tryz.underlying239 (by kernel_rfl)
theorem ty240:TyOK Tryz.prog TT 240 ⟨.array 64 47,64,256,some (.arr 64 (.int .u32))⟩:=Ao Tryz.underlying240 (by kernel_rfl)
theorem ty246:TyOK Tryz.prog TT 246 ⟨.func #[149] #[245] false,1,8,some .fn⟩:=Ao Tryz.underlying246 (by kernel_rfl)
theorem ty265:TyOK Tryz.prog TT 265 ⟨.slice 300,1,24,some (.sl Kq13)⟩:=Ao Tryz.underlying265 (by kernel_rfl)
theorem ty267:TyOK Tryz.prog TT 267 ⟨.struct #[{name:= "Total",type:=32,offset:=0,embedded:=false,tag:= "",pkgPath:= "",byteOffset:=0},{name:= "Cells",type:=265,offset:=1,embedded:=false,tag:= "",pkgPath:= "",byteOffset:=8}],2,32,some Kq44⟩:=Ao Tryz.underlying267 (by kernel_rfl)
theorem ty274:TyOK Tryz.prog TT 274 ⟨.struct #[{name:= "Writer",type:=233,offset:=0,embedded:=true,tag:= "",pkgPath:= "",byteOffset:=0}],10,64,some Kq34⟩:=Ao Tryz.underlying274 (by kernel_rfl)
theorem ty280:TyOK Tryz.prog TT 280 ⟨.map 24 3,1,8,some .mp⟩:=Ao Tryz.underlying280 (by kernel_rfl)
theorem ty293:TyOK Tryz.prog TT 293 ⟨.struct #[{name:= "seed",type:=24,offset:=0,embedded:=false,tag:= "",pkgPath:= "drawlot/slots",byteOffset:=0},{name:= "attempts",type:=3,offset:=32,embedded:=false,tag:= "",pkgPath:= "drawlot/slots",byteOffset:=32}],33,40,some Kq8⟩:=Ao Tryz.underlying293 (by kernel_rfl)
theorem ty300:TyOK Tryz.prog TT 300 ⟨.struct #[{name:= "Cut",type:=32,offset:=0,embedded:=false,tag:= "",pkgPath:= "",byteOffset:=0},{name:= "Alias",type:=3,offset:=1,embedded:=false,tag:= "",pkgPath:= "",byteOffset:=8}],2,16,some Kq13⟩:=Ao Tryz.underlying300 (by kernel_rfl)
theorem ty328:TyOK Tryz.prog TT 328 ⟨.slice 3,1,24,some (.sl (.int .i64))⟩:=Ao Tryz.underlying328 (by kernel_rfl)
theorem ty330:TyOK Tryz.prog TT 330 ⟨.struct #[{name:= "Table",type:=267,offset:=0,embedded:=true,tag:= "",pkgPath:= "",byteOffset:=0},{name:= "has",type:=182,offset:=2,embedded:=false,tag:= "",pkgPath:= "drawlot/alias",byteOffset:=32},{name:= "small",type:=328,offset:=3,embedded:=false,tag:= "",pkgPath:= "drawlot/alias",byteOffset:=56},{name:= "large",type:=328,offset:=4,embedded:=false,tag:= "",pkgPath:= "drawlot/alias",byteOffset:=80}],5,104,some Kq46⟩:=Ao Tryz.underlying330 (by kernel_rfl)
theorem ty335:TyOK Tryz.prog TT 335 ⟨.slice 47,1,24,some (.sl (.int .u32))⟩:=Ao Tryz.underlying335 (by kernel_rfl)
theorem ty351:TyOK Tryz.prog TT 351 ⟨.struct #[{name:= "Source",type:=225,offset:=0,embedded:=true,tag:= "",pkgPath:= "",byteOffset:=0},{name:= "block",type:=24,offset:=37,embedded:=false,tag:= "",pkgPath:= "drawlot/tape",byteOffset:=88},{name:= "at",type:=32,offset:=69,embedded:=false,tag:= "",pkgPath:= "drawlot/tape",byteOffset:=120},{name:= "some",type:=4,offset:=70,embedded:=false,tag:= "",pkgPath:= "drawlot/tape",byteOffset:=128}],71,136,some Kq43⟩:=Ao Tryz.underlying351 (by kernel_rfl)
theorem tabOK:Av Tryz.prog TT:=zr3 (Af ty3 (Af ty4 (Af ty5 (Af ty9 (Af ty22 (Af ty24 (Af ty25 (Af ty27 (Af ty30 (Af ty31 (Af ty32 (Af ty33 (Af ty35 (Af ty36 (Af ty38 (Af ty39 (Af ty40 (Af ty47 (Af ty52 (Af ty69 (Af ty81 (Af ty97 (Af ty100 (Af ty102 (Af ty106 (Af ty113 (Af ty117 (Af ty124 (Af ty126 (Af ty129 (Af ty131 (Af ty137 (Af ty143 (Af ty146 (Af ty148 (Af ty151 (Af ty153 (Af ty157 (Af ty159 (Af ty182 (Af ty189 (Af ty191 (Af ty221 (Af ty225 (Af ty231 (Af ty233 (Af ty239 (Af ty240 (Af ty246 (Af ty265 (Af ty267 (Af ty274 (Af ty280 (Af ty293 (Af ty300 (Af ty328 (Af ty330 (Af ty335 (Af ty351 Br)))))))))))))))))))))))))))))))))))))))))))))))))))))))))))
theorem eqOK:∀t∈EQT,∀k,tkd TT t=some k→EqOK Tryz.prog t k:=(Af (fun k h=>by
  have h':some ((.int .i64):Kd)=some k:=h;cases h';exact Ky tabOK (k:=(.int .i64)) rfl (by kernel_rfl) (by kernel_rfl) (by decide)) (Af (fun k h=>by
  have h':some ((.arr 32 (.int .u8)):Kd)=some k:=h;cases h';exact Ky tabOK (k:=(.arr 32 (.int .u8))) rfl (by kernel_rfl) (by kernel_rfl) (by decide)) (Af (fun k h=>by
  have h':some (Kq21:Kd)=some k:=h;cases h';exact Ky tabOK (k:=Kq21) rfl (by kernel_rfl) (by kernel_rfl) (by decide)) (Af (fun k h=>by
  have h':some (Kq11:Kd)=some k:=h;cases h';exact Ky tabOK (k:=Kq11) rfl (by kernel_rfl) (by kernel_rfl) (by decide)) (Af (fun k h=>by
  have h':some (Kq5:Kd)=some k:=h;cases h';exact Ky tabOK (k:=Kq5) rfl (by kernel_rfl) (by kernel_rfl) (by decide)) (Af (fun k h=>by
  have h':some (Kq3:Kd)=some k:=h;cases h';exact Ky tabOK (k:=Kq3) rfl (by kernel_rfl) (by kernel_rfl) (by decide)) Br))))))
theorem mixed:Tryz.prog.follows .mixedOrders=true:=by kernel_rfl
abbrev OKP (e:Ent):Prop:=e.OK Tryz.prog
abbrev LKP (e:LEnt) (np nt l:Nat) (f:Func):Prop:=e.OK Tryz.prog np nt (Cg l (Ai f))
abbrev sE:=mE TT EQT
theorem ST:Seat Tryz.prog TT EQT:=⟨tabOK,eqOK,mixed⟩
abbrev FT54:=(R:Type)→Int→(LI→Option R)→Option R
def en54 (F:FT54):Ent:=eV 54 [(.int .u64)] [(.arr 8 (.int .u8))] F
abbrev D54_3 (Z:Type):=Int→Int→LI→LI→Z
abbrev E54_3 (R:Type):=(LI→LI→Option R)→Option R
abbrev Qw:=(R:Type)→D54_3 (E54_3 R)
def zi6 (L:Qw):LEnt:=lM 3 [.val 0 (.int .u64),.fix 2 (.ptr 0 [] (.arr 8 (.int .u8))),.fix 3 (.ptr 1 [] (.arr 8 (.int .u8))),.val 4 (.int .i64),.var 0 (.arr 8 (.int .u8)) false,.var 1 (.arr 8 (.int .u8)) false] 2 [(.exit 0,[.fix 2 (.ptr 0 [] (.arr 8 (.int .u8))),.fix 3 (.ptr 1 [] (.arr 8 (.int .u8))),.var 0 (.arr 8 (.int .u8)) false,.var 1 (.arr 8 (.int .u8)) false])] L
def e54 (L3:Qw):=sE 0 17 [] [] [zi6 L3]
def zso (R:Type):D54_3 (D54_3 (Option R)→E54_3 R):=fun x1 x2 x3 x4 kc k0=>
let v5:=decide (x2≥0);(match v5 with
|true=>let v6:=Int.tmod x1 (256:Int);let v7:=IntKind.u8.wrap v6;(match (bnd x2 (8:Int)) with
|true=>let v8:=x4.set x2.toNat v7;let v9:=IntKind.u64.wrap (Int.tdiv x1 (256:Int));let v10:=IntKind.i64.wrap (x2 - 1);kc v9 v10 x3 v8
|false=>none)
|false=>k0 x3 x4)
theorem q54_3 (L3:Qw):LEQ (zi6 L3) (e54 L3) Tryz.f54 zso:=fun _ _ _ _=>by kernel_rfl
def V2:Nat→Qw
 | 0=>fun _ _ _ _ _ _=>none
 | n+1=>fun R x1 x2 x3 x4 k0=>zso R x1 x2 x3 x4 (fun x1 x2 x3 x4=>V2 n R x1 x2 x3 x4 k0) k0
def p54 (L3:Qw):FT54:=fun R a0 k=>
L3 R a0 (7:Int) (List.replicate 8 (0:Int)) (List.replicate 8 (0:Int)) (fun x1 x2=>
k x2)
theorem q54 (L3:Qw):EQ (en54 (p54 L3)) (e54 L3) Tryz.f54 [(.cell 2 102,102,false)]:=fun _ _ _=>by kernel_rfl
def F54:FT54:=p54 (V2 FUEL)
theorem lok54_3:LKP (zi6 (V2 FUEL)) 0 17 3 Tryz.f54:=ST.lok (q54_3 (V2 FUEL)) Ab [] trivial
theorem ok54:OKP (en54 F54):=ST.ok1 (q54 (V2 FUEL)) Ab Tryz.func54 [3] ⟨⟨_,rfl,lok54_3⟩,trivial⟩
abbrev FT56:=(R:Type)→LI→(Int→Option R)→Option R
def en56 (F:FT56):Ent:=eV 56 [(.arr 4 (.int .u8))] [(.int .u32)] F
abbrev D56_3 (Z:Type):=Int→Int→LI→Z
abbrev E56_3 (R:Type):=(Int→Option R)→Option R
abbrev Qv:=(R:Type)→D56_3 (E56_3 R)
def zi5 (L:Qv):LEnt:=lM 3 [.fix 1 (.ptr 0 [] (.arr 4 (.int .u8))),.val 3 (.int .u32),.val 4 (.int .i64),.var 0 (.arr 4 (.int .u8)) false] 1 [(.exit 0,[.val 3 (.int .u32)])] L
def e56 (L3:Qv):=sE 0 17 [] [] [zi5 L3]
def p56_3 (R:Type):D56_3 (D56_3 (Option R)→E56_3 R):=fun x1 x2 x3 kc k0=>
let v4:=decide (x2<4);(match v4 with
|true=>let v5:=IntKind.u32.wrap (x1*256);(match (bnd x2 (4:Int)) with
|true=>let v6:=x3.getD x2.toNat 0;let v7:=IntKind.u32.wrap v6;let v8:=IntKind.u32.wrap (v5+v7);let v9:=IntKind.i64.wrap (x2+1);kc v8 v9 x3
|false=>none)
|false=>k0 x1)
theorem q56_3 (L3:Qv):LEQ (zi5 L3) (e56 L3) Tryz.f56 p56_3:=fun _ _ _ _=>by kernel_rfl
def zfm:Nat→Qv
 | 0=>fun _ _ _ _ _=>none
 | n+1=>fun R x1 x2 x3 k0=>p56_3 R x1 x2 x3 (fun x1 x2 x3=>zfm n R x1 x2 x3 k0) k0
def p56 (L3:Qv):FT56:=fun R a0 k=>
L3 R (0:Int) (0:Int) a0 (fun x1=>
k x1)
theorem q56 (L3:Qv):EQ (en56 (p56 L3)) (e56 L3) Tryz.f56 [(.tmp 2,47,false)]:=fun _ _ _=>by kernel_rfl
def F56:FT56:=p56 (zfm FUEL)
theorem lok56_3:LKP (zi5 (zfm FUEL)) 0 17 3 Tryz.f56:=ST.lok (q56_3 (zfm FUEL)) Ab [] trivial
theorem ok56:OKP (en56 F56):=ST.ok1 (q56 (zfm FUEL)) Ab Tryz.func56 [3] ⟨⟨_,rfl,lok56_3⟩,trivial⟩
abbrev FT57:=(R:Type)→LI→(Int→Option R)→Option R
abbrev D57_3 (Z:Type):=Int→Int→LI→Z
abbrev E57_3 (R:Type):=(Int→Option R)→Option R
abbrev zxr:=(R:Type)→D57_3 (E57_3 R)
def p57_3 (R:Type):D57_3 (D57_3 (Option R)→E57_3 R):=fun x1 x2 x3 kc k0=>
let v4:=decide (x2<8);(match v4 with
|true=>let v5:=IntKind.u64.wrap (x1*256);(match (bnd x2 (8:Int)) with
|true=>let v6:=x3.getD x2.toNat 0;let v7:=IntKind.u64.wrap v6;let v8:=IntKind.u64.wrap (v5+v7);let v9:=IntKind.i64.wrap (x2+1);kc v8 v9 x3
|false=>none)
|false=>k0 x1)
def G57_3:Nat→zxr
 | 0=>fun _ _ _ _ _=>none
 | n+1=>fun R x1 x2 x3 k0=>p57_3 R x1 x2 x3 (fun x1 x2 x3=>G57_3 n R x1 x2 x3 k0) k0
def p57 (L3:zxr):FT57:=fun R a0 k=>
L3 R (0:Int) (0:Int) a0 (fun x1=>
k x1)
def F57:FT57:=p57 (G57_3 FUEL)
abbrev FT70:=(R:Type)→Int→(LI→Option R)→Option R
def en70 (F:FT70):Ent:=eV 70 [(.int .u32)] [(.arr 4 (.int .u8))] F
def p70:FT70:=fun R a0 k=>
let v1:=IntKind.u32.wrap (Int.tdiv a0 (16777216:Int));let v2:=IntKind.u8.wrap v1;let v3:=IntKind.u32.wrap (Int.tdiv a0 (65536:Int));let v4:=Int.tmod v3 (256:Int);let v5:=IntKind.u8.wrap v4;let v6:=IntKind.u32.wrap (Int.tdiv a0 (256:Int));let v7:=Int.tmod v6 (256:Int);let v8:=IntKind.u8.wrap v7;let v9:=Int.tmod a0 (256:Int);let v10:=IntKind.u8.wrap v9;let v11:=List.set (List.set (List.set (List.set (List.replicate 4 (0:Int)) 0 v2) 1 v5) 2 v8) 3 v10;k v11
theorem q70:EQ (en70 p70) (sE 0 18 [] [] []) Tryz.f70 [(.cell 2 106,106,false)]:=fun _ _ _=>by kernel_rfl
def F70:FT70:=p70
theorem ok70:OKP (en70 F70):=ST.ok0 q70 Ab Tryz.func70
abbrev Ki:=(R:Type)→Int→(LI→Option R)→Option R
def Ze (F:Ki):Ent:=eV 115 [(.int .u64)] [(.arr 8 (.int .u8))] F
abbrev zrk (Z:Type):=Int→Int→LI→Z
abbrev E115_2 (R:Type):=(LI→Option R)→Option R
abbrev Ma:=(R:Type)→zrk (E115_2 R)
def Y7 (L:Ma):LEnt:=lM 2 [.val 0 (.int .u64),.fix 2 (.ptr 0 [] (.arr 8 (.int .u8))),.val 4 (.int .i64),.var 0 (.arr 8 (.int .u8)) false] 1 [(.exit 0,[.fix 2 (.ptr 0 [] (.arr 8 (.int .u8))),.var 0 (.arr 8 (.int .u8)) false])] L
def e115 (L2:Ma):=sE 0 18 [] [] [Y7 L2]
def zh9 (R:Type):zrk (zrk (Option R)→E115_2 R):=fun x1 x2 x3 kc k0=>
let v4:=decide (x2<8);(match v4 with
|true=>let v5:=IntKind.i64.wrap ((7:Int) - x2);let v6:=IntKind.i64.wrap ((8:Int)*v5);let v7:=IntKind.u64.wrap v6;(match (decide (0≤v7)) with
|true=>let v8:=ishr .u64 x1 v7;let v9:=IntKind.u8.wrap v8;(match (bnd x2 (8:Int)) with
|true=>let v10:=x3.set x2.toNat v9;let v11:=IntKind.i64.wrap (x2+1);kc x1 v11 v10
|false=>none)
|false=>none)
|false=>k0 x3)
theorem q115_2 (L2:Ma):LEQ (Y7 L2) (e115 L2) Tryz.f115 zh9:=fun _ _ _ _=>by kernel_rfl
def Po:Nat→Ma
 | 0=>fun _ _ _ _ _=>none
 | n+1=>fun R x1 x2 x3 k0=>zh9 R x1 x2 x3 (fun x1 x2 x3=>Po n R x1 x2 x3 k0) k0
def p115 (L2:Ma):Ki:=fun R a0 k=>
L2 R a0 (0:Int) (List.replicate 8 (0:Int)) (fun x1=>
k x1)
theorem q115 (L2:Ma):EQ (Ze (p115 L2)) (e115 L2) Tryz.f115 [(.cell 2 102,102,false)]:=fun _ _ _=>by kernel_rfl
def F115:Ki:=p115 (Po FUEL)
theorem zub:LKP (Y7 (Po FUEL)) 0 18 2 Tryz.f115:=ST.lok (q115_2 (Po FUEL)) Ab [] trivial
theorem zih:OKP (Ze F115):=ST.ok1 (q115 (Po FUEL)) Ab Tryz.func115 [2] ⟨⟨_,rfl,zub⟩,trivial⟩
abbrev Ws:=(R:Type)→LI→(Int→Option R)→Option R
def zvv (F:Ws):Ent:=eV 173 [(.arr 8 (.int .u8))] [(.int .u64)] F
abbrev zq2 (Z:Type):=Int→LI→Int→Z
abbrev E173_2 (R:Type):=(Int→Option R)→Option R
abbrev Ly:=(R:Type)→zq2 (E173_2 R)
def Yy (L:Ly):LEnt:=lM 2 [.val 2 (.int .u64),.val 5 (.arr 8 (.int .u8)),.val 6 (.int .i64)] 0 [(.exit 0,[.val 2 (.int .u64)])] L
def e173 (L2:Ly):=sE 0 16 [] [] [Yy L2]
def zh2 (R:Type):zq2 (zq2 (Option R)→E173_2 R):=fun x1 x2 x3 kc k0=>
let v4:=decide (x3<8);(match v4 with
|true=>(match (bnd x3 (8:Int)) with
|true=>let v5:=x2.getD x3.toNat 0;let v6:=ishl .u64 x1 (8:Int);let v7:=IntKind.u64.wrap v5;let v8:=ior .u64 v6 v7;let v9:=IntKind.i64.wrap (x3+1);kc v8 x2 v9
|false=>none)
|false=>k0 x1)
theorem q173_2 (L2:Ly):LEQ (Yy L2) (e173 L2) Tryz.f173 zh2:=fun _ _ _ _=>by kernel_rfl
def Ra:Nat→Ly
 | 0=>fun _ _ _ _ _=>none
 | n+1=>fun R x1 x2 x3 k0=>zh2 R x1 x2 x3 (fun x1 x2 x3=>Ra n R x1 x2 x3 k0) k0
def p173 (L2:Ly):Ws:=fun R a0 k=>
L2 R (0:Int) a0 (0:Int) (fun x1=>
k x1)
theorem q173 (L2:Ly):EQ (zvv (p173 L2)) (e173 L2) Tryz.f173 [(.tmp 2,32,false)]:=fun _ _ _=>by kernel_rfl
def F173:Ws:=p173 (Ra FUEL)
theorem zt2:LKP (Yy (Ra FUEL)) 0 16 2 Tryz.f173:=ST.lok (q173_2 (Ra FUEL)) Ab [] trivial
theorem ok173:OKP (zvv F173):=ST.ok1 (q173 (Ra FUEL)) Ab Tryz.func173 [2] ⟨⟨_,rfl,zt2⟩,trivial⟩
abbrev Nb:=(R:Type)→Int→(LI→Option R)→Option R
def zkk (F:Nb):Ent:=eV 218 [(.int .u32)] [(.arr 4 (.int .u8))] F
def p218:Nb:=fun R a0 k=>
let v1:=ishr .u32 a0 (24:Int);let v2:=IntKind.u8.wrap v1;let v3:=ishr .u32 a0 (16:Int);let v4:=IntKind.u8.wrap v3;let v5:=ishr .u32 a0 (8:Int);let v6:=IntKind.u8.wrap v5;let v7:=IntKind.u8.wrap a0;let v8:=List.set (List.set (List.set (List.set (List.replicate 4 (0:Int)) 0 v2) 1 v4) 2 v6) 3 v7;k v8
theorem q218:EQ (zkk p218) (sE 0 15 [] [] []) Tryz.f218 [(.cell 2 106,106,false)]:=fun _ _ _=>by kernel_rfl
def F218:Nb:=p218
theorem zsz:OKP (zkk F218):=ST.ok0 q218 Ab Tryz.func218
abbrev Na:=(R:Type)→LI→(Int→Option R)→Option R
def zkj (F:Na):Ent:=eV 220 [(.arr 4 (.int .u8))] [(.int .u32)] F
abbrev zqq (Z:Type):=Int→LI→Int→Z
abbrev E220_2 (R:Type):=(Int→Option R)→Option R
abbrev Lu:=(R:Type)→zqq (E220_2 R)
def Yu (L:Lu):LEnt:=lM 2 [.val 2 (.int .u32),.val 5 (.arr 4 (.int .u8)),.val 6 (.int .i64)] 0 [(.exit 0,[.val 2 (.int .u32)])] L
def e220 (L2:Lu):=sE 0 16 [] [] [Yu L2]
def zhy (R:Type):zqq (zqq (Option R)→E220_2 R):=fun x1 x2 x3 kc k0=>
let v4:=decide (x3<4);(match v4 with
|true=>(match (bnd x3 (4:Int)) with
|true=>let v5:=x2.getD x3.toNat 0;let v6:=ishl .u32 x1 (8:Int);let v7:=IntKind.u32.wrap v5;let v8:=ior .u32 v6 v7;let v9:=IntKind.i64.wrap (x3+1);kc v8 x2 v9
|false=>none)
|false=>k0 x1)
theorem q220_2 (L2:Lu):LEQ (Yu L2) (e220 L2) Tryz.f220 zhy:=fun _ _ _ _=>by kernel_rfl
def Q9:Nat→Lu
 | 0=>fun _ _ _ _ _=>none
 | n+1=>fun R x1 x2 x3 k0=>zhy R x1 x2 x3 (fun x1 x2 x3=>Q9 n R x1 x2 x3 k0) k0
def p220 (L2:Lu):Na:=fun R a0 k=>
L2 R (0:Int) a0 (0:Int) (fun x1=>
k x1)
theorem q220 (L2:Lu):EQ (zkj (p220 L2)) (e220 L2) Tryz.f220 [(.tmp 2,47,false)]:=fun _ _ _=>by kernel_rfl
def F220:Na:=p220 (Q9 FUEL)
theorem zty:LKP (Yu (Q9 FUEL)) 0 16 2 Tryz.f220:=ST.lok (q220_2 (Q9 FUEL)) Ab [] trivial
theorem zsy:OKP (zkj F220):=ST.ok1 (q220 (Q9 FUEL)) Ab Tryz.func220 [2] ⟨⟨_,rfl,zty⟩,trivial⟩
abbrev S3:=(R:Type)→Int→Int→(Int→Option R)→Option R
def zkd (F:S3):Ent:=eV 259 [(.int .u32),(.int .i64)] [(.int .u32)] F
abbrev zqd (Z:Type):=Int→Int→Int→Z
abbrev zz5 (R:Type):=(Int→Option R)→Option R
abbrev Lm:=(R:Type)→zqd (zz5 R)
def Yl (L:Lm):LEnt:=lM 5 [.val 0 (.int .u32),.val 1 (.int .i64),.val 5 (.int .i64)] 0 [(.exit 0,[.val 0 (.int .u32)])] L
def e259 (L5:Lm):=sE 0 24 [] [] [Yl L5]
def zhp (R:Type):zqd (zqd (Option R)→zz5 R):=fun x1 x2 x3 kc k0=>
let v4:=decide (x3<x2);(match v4 with
|true=>let v5:=IntKind.u32.wrap (Int.tdiv x1 (2:Int));let v6:=Int.tmod x1 (2:Int);let v7:=IntKind.u32.wrap (v6*2147483648);let v8:=IntKind.u32.wrap (v5+v7);let v9:=IntKind.i64.wrap (x3+1);kc v8 x2 v9
|false=>k0 x1)
theorem q259_5 (L5:Lm):LEQ (Yl L5) (e259 L5) Tryz.f259 zhp:=fun _ _ _ _=>by kernel_rfl
def Pd:Nat→Lm
 | 0=>fun _ _ _ _ _=>none
 | n+1=>fun R x1 x2 x3 k0=>zhp R x1 x2 x3 (fun x1 x2 x3=>Pd n R x1 x2 x3 k0) k0
def p259 (L5:Lm):S3:=fun R a0 a1 k=>
let v1:=Int.tmod a1 (32:Int);let v2:=decide (v1<0);(match v2 with
|true=>let v3:=IntKind.i64.wrap (v1+32);L5 R a0 v3 (0:Int) (fun x4=>
k x4)
|false=>L5 R a0 v1 (0:Int) (fun x5=>
k x5))
theorem q259 (L5:Lm):EQ (zkd (p259 L5)) (e259 L5) Tryz.f259 [(.tmp 4,47,false)]:=fun _ _ _=>by kernel_rfl
def F259:S3:=p259 (Pd FUEL)
theorem zto:LKP (Yl (Pd FUEL)) 0 24 5 Tryz.f259:=ST.lok (q259_5 (Pd FUEL)) Ab [] trivial
theorem ok259:OKP (zkd F259):=ST.ok1 (q259 (Pd FUEL)) Ab Tryz.func259 [5] ⟨⟨_,rfl,zto⟩,trivial⟩
abbrev Wm:=(R:Type)→Int→Int→(Int→Option R)→Option R
def zvh (F:Wm):Ent:=eV 260 [(.int .u32),(.int .i64)] [(.int .u32)] F
abbrev zqc (Z:Type):=Int→Int→Int→Z
abbrev zz4 (R:Type):=(Int→Option R)→Option R
abbrev Ll:=(R:Type)→zqc (zz4 R)
def Yk (L:Ll):LEnt:=lM 4 [.val 0 (.int .u32),.val 1 (.int .i64),.val 5 (.int .i64)] 0 [(.exit 0,[.val 0 (.int .u32)])] L
def e260 (L4:Ll):=sE 0 16 [] [] [Yk L4]
def zho (R:Type):zqc (zqc (Option R)→zz4 R):=fun x1 x2 x3 kc k0=>
let v4:=decide (x3<x2);(match v4 with
|true=>let v5:=IntKind.u32.wrap (Int.tdiv x1 (2:Int));let v6:=IntKind.i64.wrap (x3+1);kc v5 x2 v6
|false=>k0 x1)
theorem q260_4 (L4:Ll):LEQ (Yk L4) (e260 L4) Tryz.f260 zho:=fun _ _ _ _=>by kernel_rfl
def Pc:Nat→Ll
 | 0=>fun _ _ _ _ _=>none
 | n+1=>fun R x1 x2 x3 k0=>zho R x1 x2 x3 (fun x1 x2 x3=>Pc n R x1 x2 x3 k0) k0
def p260 (L4:Ll):Wm:=fun R a0 a1 k=>
let v1:=decide (a1>31);(match v1 with
|true=>k (0:Int)
|false=>L4 R a0 a1 (0:Int) (fun x2=>
k x2))
theorem q260 (L4:Ll):EQ (zvh (p260 L4)) (e260 L4) Tryz.f260 [(.tmp 4,47,false)]:=fun _ _ _=>by kernel_rfl
def F260:Wm:=p260 (Pc FUEL)
theorem ztn:LKP (Yk (Pc FUEL)) 0 16 4 Tryz.f260:=ST.lok (q260_4 (Pc FUEL)) Ab [] trivial
theorem ok260:OKP (zvh F260):=ST.ok1 (q260 (Pc FUEL)) Ab Tryz.func260 [4] ⟨⟨_,rfl,ztn⟩,trivial⟩
abbrev FT281:=(R:Type)→Int→(Int→Option R)→Option R
abbrev zp7 (Z:Type):=Int→Int→Z
abbrev zzz (R:Type):=(Int→Option R)→Option R
abbrev zlv:=(R:Type)→zp7 (zzz R)
def p281_2 (R:Type):zp7 (zp7 (Option R)→zzz R):=fun x1 x2 kc k0=>
let v3:=decide (x1>0);(match v3 with
|true=>let v4:=IntKind.u64.wrap (Int.tdiv x1 (2:Int));let v5:=IntKind.i64.wrap (x2+1);kc v4 v5
|false=>k0 x2)
def zyj:Nat→zlv
 | 0=>fun _ _ _ _=>none
 | n+1=>fun R x1 x2 k0=>p281_2 R x1 x2 (fun x1 x2=>zyj n R x1 x2 k0) k0
def p281 (L2:zlv):FT281:=fun R a0 k=>
L2 R a0 (0:Int) (fun x1=>
k x1)
def F281:FT281:=p281 (zyj FUEL)
abbrev znc:=(R:Type)→Int→(Int→Option R)→Option R
def en329 (F:znc):Ent:=eV 329 [(.int .u64)] [(.int .i64)] F
abbrev zpu (Z:Type):=Int→Int→Z
abbrev zzm (R:Type):=(Int→Option R)→Option R
abbrev Lb:=(R:Type)→zpu (zzm R)
def X7 (L:Lb):LEnt:=lM 1 [.val 0 (.int .u64),.val 2 (.int .i64)] 0 [(.exit 0,[.val 2 (.int .i64)])] L
def e329 (L1:Lb):=sE 0 10 [] [] [X7 L1]
def zcg (R:Type):zpu (zpu (Option R)→zzm R):=fun x1 x2 kc k0=>
let v3:=x1 !=0;(match v3 with
|true=>let v4:=IntKind.i64.wrap (x2+1);let v5:=ishr .u64 x1 (1:Int);kc v5 v4
|false=>k0 x2)
theorem q329_1 (L1:Lb):LEQ (X7 L1) (e329 L1) Tryz.f329 zcg:=fun _ _ _ _=>by kernel_rfl
def Mt:Nat→Lb
 | 0=>fun _ _ _ _=>none
 | n+1=>fun R x1 x2 k0=>zcg R x1 x2 (fun x1 x2=>Mt n R x1 x2 k0) k0
def p329 (L1:Lb):znc:=fun R a0 k=>
L1 R a0 (0:Int) (fun x1=>
k x1)
theorem q329 (L1:Lb):EQ (en329 (p329 L1)) (e329 L1) Tryz.f329 [(.tmp 2,3,false)]:=fun _ _ _=>by kernel_rfl
def F329:znc:=p329 (Mt FUEL)
theorem zta:LKP (X7 (Mt FUEL)) 0 10 1 Tryz.f329:=ST.lok (q329_1 (Mt FUEL)) Ab [] trivial
theorem ok329:OKP (en329 F329):=ST.ok1 (q329 (Mt FUEL)) Ab Tryz.func329 [1] ⟨⟨_,rfl,zta⟩,trivial⟩
abbrev zaa:=(R:Type)→Int→Int→(Int→Option R)→Option R
def zu5 (F:zaa):Ent:=eV 332 [(.int .u32),(.int .i64)] [(.int .u32)] F
def p332:zaa:=fun R a0 a1 k=>
let v1:=IntKind.u64.wrap a1;let v2:=Int.tmod v1 (32:Int);(match (decide (0≤v2)) with
|true=>let v3:=ishr .u32 a0 v2;let v4:=IntKind.u64.wrap ((32:Int) - v2);(match (decide (0≤v4)) with
|true=>let v5:=ishl .u32 a0 v4;let v6:=ior .u32 v3 v5;k v6
|false=>none)
|false=>none)
theorem q332:EQ (zu5 p332) (sE 0 17 [] [] []) Tryz.f332 [(.tmp 4,47,false)]:=fun _ _ _=>by kernel_rfl
def F332:zaa:=p332
theorem ok332:OKP (zu5 F332):=ST.ok0 q332 Ab Tryz.func332
abbrev zna:=(R:Type)→Int→Int→(Int→Option R)→Option R
def en333 (F:zna):Ent:=eV 333 [(.int .u32),(.int .i64)] [(.int .u32)] F
def p333:zna:=fun R a0 a1 k=>
let v1:=if (0:Int)>a1 then (0:Int) else a1;let v2:=IntKind.u64.wrap v1;(match (decide (0≤v2)) with
|true=>let v3:=ishr .u32 a0 v2;k v3
|false=>none)
theorem q333:EQ (en333 p333) (sE 0 10 [] [] []) Tryz.f333 [(.tmp 4,47,false)]:=fun _ _ _=>by kernel_rfl
def F333:zna:=p333
theorem ok333:OKP (en333 F333):=ST.ok0 q333 Ab Tryz.func333
abbrev FT86:=(R:Type)→Int→Int→Int→(Bool→Option R)→Option R
def en86 (F:FT86):Ent:=eV 86 [(.int .i64),(.int .i64),(.int .i64)] [.bool] F
def p86:FT86:=fun R a0 a1 a2 k=>
let v1:=decide (a0≥a1);(match v1 with
|true=>let v2:=decide (a0≤a2);k v2
|false=>k false)
theorem q86:EQ (en86 p86) (sE 0 15 [] [] []) Tryz.f86 [(.tmp 6,4,false)]:=fun _ _ _=>by kernel_rfl
def F86:FT86:=p86
theorem ok86:OKP (en86 F86):=ST.ok0 q86 Ab Tryz.func86
abbrev FT58:=(R:Type)→Tq21→(Bool→Option R)→Option R
def en58 (F:FT58):Ent:=eV 58 [Kq21] [.bool] F
def p58 (F86:FT86):FT58:=fun R a0 k=>
F86 R a0.1 (1:Int) (1024:Int) fun y1=>
(match y1 with
|true=>F86 R a0.2.1 (0:Int) a0.1 fun y2=>
(match y2 with
|true=>let v3:=IntKind.i64.wrap (a0.1 - a0.2.1);F86 R a0.2.2.1 (0:Int) v3 fun y4=>
(match y4 with
|true=>F86 R a0.2.2.2.1 (1:Int) (64:Int) fun y5=>
(match y5 with
|true=>F86 R a0.2.2.2.2.1 (1:Int) (1048576:Int) fun y6=>
k y6
|false=>k false)
|false=>k false)
|false=>k false)
|false=>k false)
theorem q58 (F86:FT86):EQ (en58 (p58 F86)) (sE 0 33 [] [en86 F86] []) Tryz.f58 [(.tmp 2,4,false)]:=fun _ _ _=>by kernel_rfl
def F58:FT58:=p58 F86
theorem ok58:OKP (en58 F58):=ST.ok0 (q58 F86) (Aa ok86 Ab) Tryz.func58
abbrev FT59:=(R:Type)→LI→(Tq24→Option R)→Option R
def en59 (F:FT59):Ent:=eV 59 [(.arr 32 (.int .u8))] [Kq24] F
def p59:FT59:=fun R a0 k=>
k ((0:Int),a0,(List.replicate 32 (0:Int)),([]:(List Tq3)),())
theorem q59:EQ (en59 p59) (sE 0 5 [] [] []) Tryz.f59 [(.cell 2 35,35,false)]:=fun _ _ _=>by kernel_rfl
def F59:FT59:=p59
theorem ok59:OKP (en59 F59):=ST.ok0 q59 Ab Tryz.func59
abbrev zbb:=(R:Type)→Int→Int→(Int→Int→Option R)→Option R
def zvw (F:zbb):Ent:=eV 120 [(.int .u64),(.int .u64)] [(.int .u64),(.int .u64)] F
def p120:zbb:=fun R a0 a1 k=>
let v1:=iand .u64 a0 (4294967295:Int);let v2:=ishr .u64 a0 (32:Int);let v3:=iand .u64 a1 (4294967295:Int);let v4:=ishr .u64 a1 (32:Int);let v5:=IntKind.u64.wrap (v1*v3);let v6:=IntKind.u64.wrap (v2*v3);let v7:=ishr .u64 v5 (32:Int);let v8:=IntKind.u64.wrap (v6+v7);let v9:=iand .u64 v8 (4294967295:Int);let v10:=ishr .u64 v8 (32:Int);let v11:=IntKind.u64.wrap (v1*v4);let v12:=IntKind.u64.wrap (v9+v11);let v13:=IntKind.u64.wrap (v2*v4);let v14:=IntKind.u64.wrap (v13+v10);let v15:=ishr .u64 v12 (32:Int);let v16:=IntKind.u64.wrap (v14+v15);let v17:=IntKind.u64.wrap (a0*a1);k v16 v17
theorem q120:EQ (zvw p120) (sE 0 51 [] [] []) Tryz.f120 [(.tmp 4,32,false),(.tmp 5,32,false)]:=fun _ _ _=>by kernel_rfl
def F120:zbb:=p120
theorem ok120:OKP (zvw F120):=ST.ok0 q120 Ab Tryz.func120
abbrev FT87:=(R:Type)→Int→Int→(Int→Int→Option R)→Option R
def en87 (F:FT87):Ent:=eV 87 [(.int .u64),(.int .u64)] [(.int .u64),(.int .u64)] F
def p87 (F120:zbb):FT87:=fun R a0 a1 k=>
F120 R a0 a1 fun y1 y2=>
k y1 y2
theorem q87 (F120:zbb):EQ (en87 (p87 F120)) (sE 0 30 [] [zvw F120] []) Tryz.f87 [(.tmp 4,117,false),(.tmp 5,117,false)]:=fun _ _ _=>by kernel_rfl
def F87:FT87:=p87 F120
theorem ok87:OKP (en87 F87):=ST.ok0 (q87 F120) (Aa ok120 Ab) Tryz.func87
abbrev FT60:=(R:Type)→LI→Int→(LI→Option R)→Option R
def en60 (F:FT60):Ent:=eV 60 [(.sl (.int .i64)),(.int .i64)] [(.sl (.int .i64))] F
abbrev D60_8 (Z:Type):=Int→LI→Z
abbrev E60_8 (R:Type):=(LI→Option R)→Option R
abbrev Qu:=(R:Type)→D60_8 (E60_8 R)
def zi4 (L:Qu):LEnt:=lM 8 [.fix 7 (.own 0 0),.val 8 (.int .i64),.row 0 (.int .i64) false] 1 [(.exit 0,[.fix 7 (.own 0 0),.row 0 (.int .i64) false])] L
def e60 (F87:FT87) (L8:Qu):=sE 0 48 [] [en87 F87] [zi4 L8]
def p60_8 (R:Type):D60_8 (D60_8 (Option R)→E60_8 R):=fun x1 x2 kc k0=>
let v3:=(x2.length:Int);let v4:=decide (x1<v3);(match v4 with
|true=>(match (decide (0≤x1∧x1≤(x2.length:Int)∧(x2.length:Int)≤(x2.length:Int)∧(x2.length:Int)≤(x2.length:Int))) with
|true=>(match (decide (0≤(0:Int)∧(0:Int)≤x1∧x1≤x1∧x1≤(x2.length:Int))) with
|true=>let v5:=lay x2 x1.toNat (List.take (Int.toNat ((x2.length:Int) - x1)) (List.take (Int.toNat (x1 - 0)) (List.drop 0 x2)));let v6:=IntKind.i64.wrap (x1+((min (List.length (List.take (Int.toNat (x1 - 0)) (List.drop 0 x2))) (Int.toNat ((x2.length:Int) - x1)):Nat):Int));kc v6 v5
|false=>none)
|false=>none)
|false=>k0 x2)
theorem q60_8 (F87:FT87) (L8:Qu):LEQ (zi4 L8) (e60 F87 L8) Tryz.f60 p60_8:=fun _ _ _ _=>by kernel_rfl
def Zx:Nat→Qu
 | 0=>fun _ _ _ _=>none
 | n+1=>fun R x1 x2 k0=>p60_8 R x1 x2 (fun x1 x2=>Zx n R x1 x2 k0) k0
def p60 (F87:FT87) (L8:Qu):FT60:=fun R a0 a1 k=>
let v1:=decide (a1<0);(match v1 with
|true=>none
|false=>let v2:=(a0.length:Int);let v3:=IntKind.u64.wrap v2;let v4:=IntKind.u64.wrap a1;F87 R v3 v4 fun y5 y6=>
let v7:=decide (y5>0);(match v7 with
|true=>none
|false=>let v8:=decide (y6>9223372036854775807);(match v8 with
|true=>none
|false=>let v9:=IntKind.i64.wrap y6;(match (decide (0≤v9∧v9≤v9∧v9≤17592186044416)) with
|true=>let v10:=List.replicate v9.toNat (0:Int);let v11:=lay v10 0 (List.take (v10.length) a0);L8 R ((min (a0.length) (v10.length):Nat):Int) v11 (fun x12=>
k x12)
|false=>none))))
theorem q60 (F87:FT87) (L8:Qu):EQ (en60 (p60 F87 L8)) (e60 F87 L8) Tryz.f60 [(.tmp 4,36,false)]:=fun _ _ _=>by kernel_rfl
def F60:FT60:=p60 F87 (Zx FUEL)
theorem lok60_8:LKP (zi4 (Zx FUEL)) 0 48 8 Tryz.f60:=ST.lok (q60_8 F87 (Zx FUEL)) (Aa ok87 Ab) [] trivial
theorem ok60:OKP (en60 F60):=ST.ok1 (q60 F87 (Zx FUEL)) (Aa ok87 Ab) Tryz.func60 [8] ⟨⟨_,rfl,lok60_8⟩,trivial⟩
abbrev FT31:=(R:Type)→Tq21→LI→(Tq29→Int→Option R)→Option R
def en31 (F:FT31):Ent:=eV 31 [Kq21,(.arr 32 (.int .u8))] [Kq29,(.int .i64)] F
def p31 (F58:FT58) (F59:FT59) (F60:FT60):FT31:=fun R a0 a1 k=>
F58 R a0 fun y1=>
(match (!y1) with
|true=>k (((0:Int),(0:Int),(0:Int),(0:Int),(0:Int),()),(0:Int),([]:(List Tq5)),((0:Int),(List.replicate 32 (0:Int)),(List.replicate 32 (0:Int)),([]:(List Tq3)),()),([]:LI),([]:LI),()) (1:Int)
|false=>F59 R a1 fun y2=>
let v3:=([(-1:Int)]:LI);F60 R v3 a0.1 fun y4=>
k (a0,(0:Int),([]:(List Tq5)),y2,y4,([]:LI),()) (0:Int))
theorem q31 (F58:FT58) (F59:FT59) (F60:FT60):EQ (en31 (p31 F58 F59 F60)) (sE 0 18 [] [en58 F58,en59 F59,en60 F60] []) Tryz.f31 [(.cell 4 38,38,false),(.tmp 5,40,false)]:=fun _ _ _=>by kernel_rfl
def F31:FT31:=p31 F58 F59 F60
theorem ok31:OKP (en31 F31):=ST.ok0 (q31 F58 F59 F60) (Aa ok58 (Aa ok59 (Aa ok60 Ab))) Tryz.func31
abbrev zba:Type 1:=(R:Type)→LI→(LI→Option R)→Option R
def en169 (F:zba):Ent:=⟨169,[(false,(.sl (.int .u8)))],[(true,(.int .u8))],fun R x k=>F R x.1 (fun y1=>k (y1,()) ())⟩
def e169:Env (RT [(true,(.int .u8))]):=⟨TT,EQT,0,8,Bq [(2,0),(3,0)],fun _ _ _=>none,fun _ _ _=>none,[],Bf [],[],fun _ _ _ _=>none⟩
def F169:zba:=fun R a0 k=>match decide (List.length ([]:LI)+a0.length≤140737488355328) with | true=>k a0 | false=>none
theorem ok169:(en169 F169).OK Tryz.prog:=
 Ic (e:=(.int .u8)) e169 ⟨tabOK,eqOK,(fun f b K r h=>by cases h),Bv,Ak,noYl⟩ mixed Tryz.func169 (body:=Ai Tryz.f169) (by kernel_rfl) (by kernel_rfl) (by kernel_rfl) (res:=[(.tmp 2,25,true)]) (by kernel_rfl) rfl (by decide) (by kernel_rfl) (lim:=140737488355328) (by kernel_rfl) (fun l=>by kernel_rfl)
abbrev zoq:=(R:Type)→(Tq7→Option R)→Option R
def en121 (F:zoq):Ent:=eV 121 [] [Kq7] F
def p121:zoq:=fun R k=>
k ((32:Int),(FnV.fn 168),(FnV.fn 170),())
theorem q121:EQ (en121 p121) (sE 0 2 [] [] []) Tryz.f121 [(.cell 0 148,148,false)]:=fun _ _ _=>by kernel_rfl
def F121:zoq:=p121
theorem ok121:OKP (en121 F121):=ST.ok0 q121 Ab Tryz.func121
abbrev zop:=(R:Type)→(Tq7→Option R)→Option R
def en122 (F:zop):Ent:=eV 122 [] [Kq7] F
def p122:zop:=fun R k=>
k ((8:Int),(FnV.fn 171),(FnV.fn 172),())
theorem q122:EQ (en122 p122) (sE 0 2 [] [] []) Tryz.f122 [(.cell 0 148,148,false)]:=fun _ _ _=>by kernel_rfl
def F122:zop:=p122
theorem ok122:OKP (en122 F122):=ST.ok0 q122 Ab Tryz.func122
abbrev Gy:Type 1:=(R:Type)→(Tq7→Option R)→Option R
def Fo (F:Gy):EntF:=⟨174,175,[],[(false,Kq7)],fun R x k=>F R  (fun y1=>k (y1,()) ())⟩
def Uc:List (ResultVar×TypeId×Bool):=[(.cell 2 148,148,false)]
def Zh (R:Type):Env R:=⟨TT,EQT,0,6,Bq [],Bd [] R,Bi [] R,[],Bf [],[],fun _ _ _ _=>none⟩
def Xs:Gy:=fun R k=>
k ((4:Int),(FnV.clo 217 (FnV.fn 175)),(FnV.clo 219 (FnV.fn 175)),())
theorem q175175 (F:Gy) (R:Type) (x:AT (Fo F).ins) (k:RT (Fo F).outs→PT (Fo F).ins→Option R):
 xfun (Zh R) (Ai Tryz.f174) Uc (avs (Fo F).ins x++[AV.fn 175]) (finK (Fo F).outs (Fo F).ins k)=Xs R  (fun y1=>k (y1,()) ()):=by kernel_rfl
def Dy:Gy:=Xs
theorem zj6 (R:Type):Az Tryz.prog (Zh R):=⟨tabOK,eqOK,Aq Ab,Bv,Ak,noYl⟩
theorem zs1:(Fo Dy).OK Tryz.prog:=
 Iz (Ef:=fun R=>Zh R) (fun R=>zj6 R) mixed Tryz.func174 (body:=Ai Tryz.f174) (by kernel_rfl) (by kernel_rfl) (np:=0) (nt:=6) (fun _=>rfl) (fun _=>rfl) (by kernel_rfl) (res:=Uc) (by kernel_rfl) (fun _=>rfl) (fun _=>Nat.le_of_ble_eq_true rfl) (by
  intro R;rw [show Ap (Ai Tryz.f174)=[] from by kernel_rfl];exact Br) (fun R x k=>q175175 Dy R x k)
abbrev zoo:=(R:Type)→(Tq7→Option R)→Option R
def en123 (F:zoo):Ent:=eV 123 [] [Kq7] F
def e123 (Dy:Gy) (R:Type):Env R:=⟨TT,EQT,0,2,Bq [],Ei [Fo Dy] [] R,Bi [] R,[],Bf [],[],fun _ _ _ _=>none⟩
def p123 (Dy:Gy):zoo:=fun R k=>
Dy R  fun y1=>
k y1
theorem q123 (Dy:Gy):EQ (en123 (p123 Dy)) (e123 Dy) Tryz.f123 [(.cell 0 148,148,false)]:=fun _ _ _=>by kernel_rfl
def F123:zoo:=p123 Dy
theorem env123 (R:Type):Az Tryz.prog (e123 Dy R):=⟨tabOK,eqOK,Cn (Fc zs1 Ep) Ab,Bv,Ak,noYl⟩
theorem ok123:OKP (en123 F123):=ST.ok3 (q123 Dy) env123 Tryz.func123 (fun _=>rfl) (fun _=>rfl) (fun _=>rfl) [] trivial
abbrev Gx:Type 1:=(R:Type)→(Tq7→Option R)→Option R
def Fm (F:Gx):EntF:=⟨174,176,[],[(false,Kq7)],fun R x k=>F R  (fun y1=>k (y1,()) ())⟩
def Ub:List (ResultVar×TypeId×Bool):=[(.cell 2 148,148,false)]
def Zg (R:Type):Env R:=⟨TT,EQT,0,6,Bq [],Bd [] R,Bi [] R,[],Bf [],[],fun _ _ _ _=>none⟩
def Xr:Gx:=fun R k=>
k ((4:Int),(FnV.clo 217 (FnV.fn 176)),(FnV.clo 219 (FnV.fn 176)),())
theorem q175176 (F:Gx) (R:Type) (x:AT (Fm F).ins) (k:RT (Fm F).outs→PT (Fm F).ins→Option R):
 xfun (Zg R) (Ai Tryz.f174) Ub (avs (Fm F).ins x++[AV.fn 176]) (finK (Fm F).outs (Fm F).ins k)=Xr R  (fun y1=>k (y1,()) ()):=by kernel_rfl
def Dx:Gx:=Xr
theorem zj5 (R:Type):Az Tryz.prog (Zg R):=⟨tabOK,eqOK,Aq Ab,Bv,Ak,noYl⟩
theorem zs0:(Fm Dx).OK Tryz.prog:=
 Iz (Ef:=fun R=>Zg R) (fun R=>zj5 R) mixed Tryz.func174 (body:=Ai Tryz.f174) (by kernel_rfl) (by kernel_rfl) (np:=0) (nt:=6) (fun _=>rfl) (fun _=>rfl) (by kernel_rfl) (res:=Ub) (by kernel_rfl) (fun _=>rfl) (fun _=>Nat.le_of_ble_eq_true rfl) (by
  intro R;rw [show Ap (Ai Tryz.f174)=[] from by kernel_rfl];exact Br) (fun R x k=>q175176 Dx R x k)
abbrev zon:=(R:Type)→(Tq7→Option R)→Option R
def en124 (F:zon):Ent:=eV 124 [] [Kq7] F
def e124 (Dx:Gx) (R:Type):Env R:=⟨TT,EQT,0,2,Bq [],Ei [Fm Dx] [] R,Bi [] R,[],Bf [],[],fun _ _ _ _=>none⟩
def p124 (Dx:Gx):zon:=fun R k=>
Dx R  fun y1=>
k y1
theorem q124 (Dx:Gx):EQ (en124 (p124 Dx)) (e124 Dx) Tryz.f124 [(.cell 0 148,148,false)]:=fun _ _ _=>by kernel_rfl
def F124:zon:=p124 Dx
theorem env124 (R:Type):Az Tryz.prog (e124 Dx R):=⟨tabOK,eqOK,Cn (Fc zs0 Ep) Ab,Bv,Ak,noYl⟩
theorem ok124:OKP (en124 F124):=ST.ok3 (q124 Dx) env124 Tryz.func124 (fun _=>rfl) (fun _=>rfl) (fun _=>rfl) [] trivial
abbrev FT88:=(R:Type)→Int→((List Tq7)→Bool→Option R)→Option R
def en88 (F:FT88):Ent:=eV 88 [(.int .i64)] [(.sl Kq7),.bool] F
def p88 (F121:zoq) (F122:zop) (F123:zoo) (F124:zon):FT88:=fun R a0 k=>
let v1:=a0==1;(match v1 with
|true=>F121 R  fun y2=>
F122 R  fun y3=>
let v4:=([y2,y3]:(List Tq7));k v4 true
|false=>let v5:=a0==2;(match v5 with
|true=>F123 R  fun y6=>
F122 R  fun y7=>
let v8:=([y6,y7]:(List Tq7));k v8 true
|false=>let v9:=a0==3;(match v9 with
|true=>F123 R  fun y10=>
F122 R  fun y11=>
let v12:=([y10,y11]:(List Tq7));k v12 true
|false=>let v13:=a0==4;(match v13 with
|true=>F123 R  fun y14=>
F121 R  fun y15=>
let v16:=([y14,y15]:(List Tq7));k v16 true
|false=>let v17:=a0==5;(match v17 with
|true=>F123 R  fun y18=>
F121 R  fun y19=>
let v20:=([y18,y19]:(List Tq7));k v20 true
|false=>let v21:=a0==6;(match v21 with
|true=>k ([]:(List Tq7)) true
|false=>let v22:=a0==11;(match v22 with
|true=>k ([]:(List Tq7)) true
|false=>let v23:=a0==7;(match v23 with
|true=>F124 R  fun y24=>
let v25:=([y24]:(List Tq7));k v25 true
|false=>let v26:=a0==8;(match v26 with
|true=>F124 R  fun y27=>
let v28:=([y27]:(List Tq7));k v28 true
|false=>let v29:=a0==9;(match v29 with
|true=>F124 R  fun y30=>
F123 R  fun y31=>
let v32:=([y30,y31]:(List Tq7));k v32 true
|false=>let v33:=a0==10;(match v33 with
|true=>F123 R  fun y34=>
F124 R  fun y35=>
let v36:=([y34,y35]:(List Tq7));k v36 true
|false=>k ([]:(List Tq7)) false)))))))))))
theorem q88 (F121:zoq) (F122:zop) (F123:zoo) (F124:zon):EQ (en88 (p88 F121 F122 F123 F124)) (sE 0 40 [] [en121 F121,en122 F122,en123 F123,en124 F124] []) Tryz.f88 [(.tmp 2,143,false),(.tmp 3,4,false)]:=fun _ _ _=>by kernel_rfl
def F88:FT88:=p88 F121 F122 F123 F124
theorem ok88:OKP (en88 F88):=ST.ok0 (q88 F121 F122 F123 F124) (Aa ok121 (Aa ok122 (Aa ok123 (Aa ok124 Ab)))) Tryz.func88
abbrev zom:=(R:Type)→Int→(Int→Bool→Option R)→Option R
def en125 (F:zom):Ent:=eV 125 [(.int .i64)] [(.int .i64),.bool] F
abbrev zrf (Z:Type):=Int→(List Tq7)→Int→Int→Z
abbrev E125_6 (R:Type):=(Int→Option R)→Option R
abbrev L0:=(R:Type)→zrf (E125_6 R)
def Y2 (L:L0):LEnt:=lM 6 [.val 6 (.int .i64),.val 16 (.sl Kq7),.val 17 (.int .i64),.val 18 (.int .i64)] 0 [(.exit 0,[.val 6 (.int .i64)])] L
def e125 (F88:FT88) (L6:L0):=sE 0 28 [] [en88 F88] [Y2 L6]
def zh5 (R:Type):zrf (zrf (Option R)→E125_6 R):=fun x1 x2 x3 x4 kc k0=>
let v5:=decide (x4<x3);(match v5 with
|true=>(match bnd x4 x2.length with
|true=>let v6:=x2.getD x4.toNat (0,FnV.nil,FnV.nil,());let v7:=IntKind.i64.wrap (x1+v6.1);let v8:=IntKind.i64.wrap (x4+1);kc v7 x2 x3 v8
|false=>none)
|false=>k0 x1)
theorem q125_6 (F88:FT88) (L6:L0):LEQ (Y2 L6) (e125 F88 L6) Tryz.f125 zh5:=fun _ _ _ _=>by kernel_rfl
def Pn:Nat→L0
 | 0=>fun _ _ _ _ _ _=>none
 | n+1=>fun R x1 x2 x3 x4 k0=>zh5 R x1 x2 x3 x4 (fun x1 x2 x3 x4=>Pn n R x1 x2 x3 x4 k0) k0
def p125 (F88:FT88) (L6:L0):zom:=fun R a0 k=>
F88 R a0 fun y1 y2=>
(match (!y2) with
|true=>k (0:Int) false
|false=>let v3:=(y1.length:Int);L6 R (1:Int) y1 v3 (0:Int) (fun x4=>
k x4 true))
theorem q125 (F88:FT88) (L6:L0):EQ (en125 (p125 F88 L6)) (e125 F88 L6) Tryz.f125 [(.tmp 2,3,false),(.tmp 3,4,false)]:=fun _ _ _=>by kernel_rfl
def F125:zom:=p125 F88 (Pn FUEL)
theorem zt6:LKP (Y2 (Pn FUEL)) 0 28 6 Tryz.f125:=ST.lok (q125_6 F88 (Pn FUEL)) (Aa ok88 Ab) [] trivial
theorem ok125:OKP (en125 F125):=ST.ok1 (q125 F88 (Pn FUEL)) (Aa ok88 Ab) Tryz.func125 [6] ⟨⟨_,rfl,zt6⟩,trivial⟩
abbrev FT89:=(R:Type)→LI→(Bool→Option R)→Option R
def en89 (F:FT89):Ent:=eV 89 [(.sl (.int .u8))] [.bool] F
def p89 (F125:zom):FT89:=fun R a0 k=>
(match bnd 0 a0.length with
|true=>let v1:=a0.getD 0 0;let v2:=IntKind.i64.wrap v1;F125 R v2 fun y3 y4=>
(match (!y4) with
|true=>k true
|false=>let v5:=(a0.length:Int);let v6:=decide (y3≤v5);k v6)
|false=>none)
theorem q89 (F125:zom):EQ (en89 (p89 F125)) (sE 0 21 [] [en125 F125] []) Tryz.f89 [(.tmp 2,4,false)]:=fun _ _ _=>by kernel_rfl
def F89:FT89:=p89 F125
theorem ok89:OKP (en89 F89):=ST.ok0 (q89 F125) (Aa ok125 Ab) Tryz.func89
abbrev FT61:=(R:Type)→LI→(Tq11→LI→Option R)→Option R
def en61 (F:FT61):Ent:=eV 61 [(.sl (.int .u8))] [Kq11,(.sl (.int .u8))] F
abbrev zpr (Z:Type):=LI→(List Tq7)→Int→Int→Tq11→Tq11→Z
abbrev zzj (R:Type):=(LI→Tq11→Tq11→Option R)→Option R
abbrev La:=(R:Type)→zpr (zzj R)
def X6 (L:La):LEnt:=lM 10 [.val 0 (.sl (.int .u8)),.fix 2 (.ptr 0 [] Kq11),.fix 7 (.ptr 1 [] Kq11),.val 36 (.sl Kq7),.val 37 (.int .i64),.val 38 (.int .i64),.var 0 Kq11 false,.var 1 Kq11 false] 2 [(.exit 1,[.val 0 (.sl (.int .u8)),.fix 2 (.ptr 0 [] Kq11),.fix 7 (.ptr 1 [] Kq11),.var 0 Kq11 false,.var 1 Kq11 false])] L
def zxj (R:Type):Env R:=⟨TT,EQT,0,10,Bq [],Bd [] R,fun _ _ _=>none,[],Bf [],[],fun _ _ _ _=>none⟩
theorem zu2 (R:Type):Az Tryz.prog (zxj R):=⟨tabOK,eqOK,Aq Ab,Bv,Ak,noYl⟩
def zxh (F173:Ws) (R:Type):Env R:=⟨TT,EQT,0,11,Bq [],Bd [zvv F173] R,fun _ _ _=>none,[],Bf [],[],fun _ _ _ _=>none⟩
theorem zu0 (R:Type):Az Tryz.prog (zxh F173 R):=⟨tabOK,eqOK,Aq (Aa ok173 Ab),Bv,Ak,noYl⟩
def zkq (R:Type):Env R:=⟨TT,EQT,0,6,Bq [],Bd [] R,fun _ _ _=>none,[],Bf [],[],fun _ _ _ _=>none⟩
theorem zc6 (R:Type):Az Tryz.prog (zkq R):=⟨tabOK,eqOK,Aq Ab,Bv,Ak,noYl⟩
def zkp (R:Type):Env R:=⟨TT,EQT,0,6,Bq [],Bd [] R,fun _ _ _=>none,[],Bf [],[],fun _ _ _ _=>none⟩
theorem zc5 (R:Type):Az Tryz.prog (zkp R):=⟨tabOK,eqOK,Aq Ab,Bv,Ak,noYl⟩
def zxf (F220:Na) (R:Type):Env R:=⟨TT,EQT,0,14,Bq [(0,2)],Bd [zkj F220] R,fun _ _ _=>none,[],Bf [(175,xinl (zkq R) (Ai Tryz.f175) [.tmp 2] 1),(176,xinl (zkp R) (Ai Tryz.f176) [.tmp 2] 1)],[(FnV.fn 175),(FnV.fn 176)],fun _ _ _ _=>none⟩
theorem zuy (R:Type):Az Tryz.prog (zxf F220 R):=⟨tabOK,eqOK,Aq (Aa zsy Ab),Bv,(A5 (Bb (zc6 R) mixed Tryz.func175 (body:=Ai Tryz.f175) (by kernel_rfl) (by kernel_rfl) (by kernel_rfl) (res:=[.tmp 2]) (by kernel_rfl) (n:=1) (Nat.le_of_ble_eq_true rfl) (by kernel_rfl)) (A5 (Bb (zc5 R) mixed Tryz.func176 (body:=Ai Tryz.f176) (by kernel_rfl) (by kernel_rfl) (by kernel_rfl) (res:=[.tmp 2]) (by kernel_rfl) (n:=1) (Nat.le_of_ble_eq_true rfl) (by kernel_rfl)) Ak)),noYl⟩
def e61 (F88:FT88) (F89:FT89) (F173:Ws) (F220:Na) (L10:La) (R:Type):Env R:=⟨TT,EQT,0,56,Bq [(12,6)],Bd [en88 F88,en89 F89,zvv F173,zkj F220] R,Bi [X6 L10] R,[],Bf [(170,xinl (zxj R) (Ai Tryz.f170) [] 2),(172,xinl (zxh F173 R) (Ai Tryz.f172) [] 2),(219,xinl (zxf F220 R) (Ai Tryz.f219) [] 3)],[(FnV.fn 170),(FnV.fn 172),(FnV.clo 219 (FnV.fn 175)),(FnV.clo 219 (FnV.fn 176))],fun _ _ _ _=>none⟩
def Uk (F173:Ws) (F220:Na) (R:Type):zpr (zpr (Option R)→zzj R):=fun x1 x2 x3 x4 x5 x6 kc k0=>
let v7:=decide (x4<x3);(match v7 with
|true=>(match bnd x4 x2.length with
|true=>let v8:=x2.getD x4.toNat (0,FnV.nil,FnV.nil,());(match (decide (0≤(0:Int)∧(0:Int)≤v8.1∧v8.1≤v8.1∧v8.1≤(x1.length:Int))) with
|true=>let v9:=List.take (Int.toNat (v8.1 - 0)) (List.drop 0 x1);(match (FnV.same v8.2.2.1 (FnV.fn 170)) with
|true=>(match (decide ((32:Int)≤(v9.length:Int))) with
|true=>let v10:=List.take 32 v9;(match (decide (0≤v8.1∧v8.1≤(x1.length:Int)∧(x1.length:Int)≤(x1.length:Int)∧(x1.length:Int)≤(x1.length:Int))) with
|true=>let v11:=List.take (Int.toNat ((x1.length:Int) - v8.1)) (List.drop v8.1.toNat x1);let v12:=IntKind.i64.wrap (x4+1);kc v11 x2 x3 v12 x5 (x6.1,x6.2.1,x6.2.2.1,v10,x6.2.2.2.2)
|false=>none)
|false=>none)
|false=>(match (FnV.same v8.2.2.1 (FnV.fn 172)) with
|true=>(match (decide ((8:Int)≤(v9.length:Int))) with
|true=>let v13:=List.take 8 v9;F173 R v13 fun y14=>
(match (decide (0≤v8.1∧v8.1≤(x1.length:Int)∧(x1.length:Int)≤(x1.length:Int)∧(x1.length:Int)≤(x1.length:Int))) with
|true=>let v15:=List.take (Int.toNat ((x1.length:Int) - v8.1)) (List.drop v8.1.toNat x1);let v16:=IntKind.i64.wrap (x4+1);kc v15 x2 x3 v16 x5 (x6.1,x6.2.1,y14,x6.2.2.2.1,x6.2.2.2.2)
|false=>none)
|false=>none)
|false=>(match (FnV.same v8.2.2.1 (FnV.clo 219 (FnV.fn 175))) with
|true=>(match (decide ((4:Int)≤(v9.length:Int))) with
|true=>let v17:=List.take 4 v9;F220 R v17 fun y18=>
let v19:=IntKind.i64.wrap y18;(match (decide (0≤v8.1∧v8.1≤(x1.length:Int)∧(x1.length:Int)≤(x1.length:Int)∧(x1.length:Int)≤(x1.length:Int))) with
|true=>let v20:=List.take (Int.toNat ((x1.length:Int) - v8.1)) (List.drop v8.1.toNat x1);let v21:=IntKind.i64.wrap (x4+1);kc v20 x2 x3 v21 x5 (x6.1,v19,x6.2.2.1,x6.2.2.2.1,x6.2.2.2.2)
|false=>none)
|false=>none)
|false=>(match (FnV.same v8.2.2.1 (FnV.clo 219 (FnV.fn 176))) with
|true=>(match (decide ((4:Int)≤(v9.length:Int))) with
|true=>let v22:=List.take 4 v9;F220 R v22 fun y23=>
let v24:=IntKind.i64.wrap y23;(match (decide (0≤v8.1∧v8.1≤(x1.length:Int)∧(x1.length:Int)≤(x1.length:Int)∧(x1.length:Int)≤(x1.length:Int))) with
|true=>let v25:=List.take (Int.toNat ((x1.length:Int) - v8.1)) (List.drop v8.1.toNat x1);let v26:=IntKind.i64.wrap (x4+1);kc v25 x2 x3 v26 x5 (x6.1,x6.2.1,x6.2.2.1,x6.2.2.2.1,v24,x6.2.2.2.2.2)
|false=>none)
|false=>none)
|false=>none))))
|false=>none)
|false=>none)
|false=>k0 x1 x5 x6)
theorem q61_10 (F88:FT88) (F89:FT89) (F173:Ws) (F220:Na) (L10:La):LEQ (X6 L10) (e61 F88 F89 F173 F220 L10) Tryz.f61 (Uk F173 F220):=fun _ _ _ _=>by kernel_rfl
def Hu:Nat→La
 | 0=>fun _ _ _ _ _ _ _ _=>none
 | n+1=>fun R x1 x2 x3 x4 x5 x6 k0=>Uk F173 F220 R x1 x2 x3 x4 x5 x6 (fun x1 x2 x3 x4 x5 x6=>Hu n R x1 x2 x3 x4 x5 x6 k0) k0
def p61 (F88:FT88) (F89:FT89) (L10:La):FT61:=fun R a0 k=>
(match bnd 0 a0.length with
|true=>let v1:=a0.getD 0 0;let v2:=IntKind.i64.wrap v1;F88 R v2 fun y3 y4=>
(match (!y4) with
|true=>(match (decide (0≤(1:Int)∧(1:Int)≤(a0.length:Int)∧(a0.length:Int)≤(a0.length:Int)∧(a0.length:Int)≤(a0.length:Int))) with
|true=>let v5:=List.take (Int.toNat ((a0.length:Int) - (1:Int))) (List.drop 1 a0);k ((0:Int),(0:Int),(0:Int),(List.replicate 32 (0:Int)),v2,()) v5
|false=>none)
|false=>F89 R a0 fun y6=>
(match (!y6) with
|true=>k ((0:Int),(0:Int),(0:Int),(List.replicate 32 (0:Int)),v2,()) ([]:LI)
|false=>(match (decide (0≤(1:Int)∧(1:Int)≤(a0.length:Int)∧(a0.length:Int)≤(a0.length:Int)∧(a0.length:Int)≤(a0.length:Int))) with
|true=>let v7:=List.take (Int.toNat ((a0.length:Int) - (1:Int))) (List.drop 1 a0);let v8:=(y3.length:Int);L10 R v7 y3 v8 (0:Int) ((0:Int),(0:Int),(0:Int),(List.replicate 32 (0:Int)),(0:Int),()) (v2,(0:Int),(0:Int),(List.replicate 32 (0:Int)),(0:Int),()) (fun x9 x10 x11=>
k x11 x9)
|false=>none)))
|false=>none)
theorem q61 (F88:FT88) (F89:FT89) (F173:Ws) (F220:Na) (L10:La):EQ (en61 (p61 F88 F89 L10)) (e61 F88 F89 F173 F220 L10) Tryz.f61 [(.cell 2 69,69,false),(.tmp 3,25,false)]:=fun _ _ _=>by kernel_rfl
def F61:FT61:=p61 F88 F89 (Hu FUEL)
theorem env61 (R:Type):Az Tryz.prog (e61 F88 F89 F173 F220 (Hu FUEL) R):=⟨tabOK,eqOK,Aq (Aa ok88 (Aa ok89 (Aa ok173 (Aa zsy Ab)))),Bv,(A5 (Bb (zu2 R) mixed Tryz.func170 (body:=Ai Tryz.f170) (by kernel_rfl) (by kernel_rfl) (by kernel_rfl) (res:=[]) (by kernel_rfl) (n:=2) (Nat.le_of_ble_eq_true rfl) (by kernel_rfl)) (A5 (Bb (zu0 R) mixed Tryz.func172 (body:=Ai Tryz.f172) (by kernel_rfl) (by kernel_rfl) (by kernel_rfl) (res:=[]) (by kernel_rfl) (n:=2) (Nat.le_of_ble_eq_true rfl) (by kernel_rfl)) (A5 (Bb (zuy R) mixed Tryz.func219 (body:=Ai Tryz.f219) (by kernel_rfl) (by kernel_rfl) (by kernel_rfl) (res:=[]) (by kernel_rfl) (n:=3) (Nat.le_of_ble_eq_true rfl) (by kernel_rfl)) Ak))),noYl⟩
theorem zs9:LKP (X6 (Hu FUEL)) 0 56 10 Tryz.f61:=ST.lok3 (q61_10 F88 F89 F173 F220 (Hu FUEL)) env61 (fun _=>rfl) (fun _=>rfl) (fun _=>rfl) [] trivial
theorem ok61:OKP (en61 F61):=ST.ok3 (q61 F88 F89 F173 F220 (Hu FUEL)) env61 Tryz.func61 (fun _=>rfl) (fun _=>rfl) (fun _=>rfl) [10] ⟨⟨_,rfl,zs9⟩,trivial⟩
abbrev FT32:=(R:Type)→LI→((List Tq11)→Option R)→Option R
def en32 (F:FT32):Ent:=eV 32 [(.sl (.int .u8))] [(.sl Kq11)] F
abbrev D32_1 (Z:Type):=LI→(List Tq11)→Z
abbrev E32_1 (R:Type):=((List Tq11)→Option R)→Option R
abbrev Q1:=(R:Type)→D32_1 (E32_1 R)
def zjb (L:Q1):LEnt:=lM 1 [.val 0 (.sl (.int .u8)),.fix 2 (.own 0 0),.row 0 Kq11 false] 1 [(.exit 0,[.fix 2 (.own 0 0),.row 0 Kq11 false])] L
def e32 (F61:FT61) (L1:Q1):=sE 0 19 [(0,0)] [en61 F61] [zjb L1]
def zsq (F61:FT61) (R:Type):D32_1 (D32_1 (Option R)→E32_1 R):=fun x1 x2 kc k0=>
let v3:=(x1.length:Int);let v4:=decide (v3>0);(match v4 with
|true=>F61 R x1 fun y5 y6=>
let v7:=([y5]:(List Tq11));(match (decide (x2.length+v7.length≤2199023255552)) with
|true=>let v8:=x2++v7;kc y6 v8
|false=>none)
|false=>k0 x2)
theorem q32_1 (F61:FT61) (L1:Q1):LEQ (zjb L1) (e32 F61 L1) Tryz.f32 (zsq F61):=fun _ _ _ _=>by kernel_rfl
def V3:Nat→Q1
 | 0=>fun _ _ _ _=>none
 | n+1=>fun R x1 x2 k0=>zsq F61 R x1 x2 (fun x1 x2=>V3 n R x1 x2 k0) k0
def p32 (L1:Q1):FT32:=fun R a0 k=>
L1 R a0 ([]:(List Tq11)) (fun x1=>
k x1)
theorem q32 (F61:FT61) (L1:Q1):EQ (en32 (p32 L1)) (e32 F61 L1) Tryz.f32 [(.tmp 2,27,false)]:=fun _ _ _=>by kernel_rfl
def F32:FT32:=p32 (V3 FUEL)
theorem lok32_1:LKP (zjb (V3 FUEL)) 0 19 1 Tryz.f32:=ST.lok (q32_1 F61 (V3 FUEL)) (Aa ok61 Ab) [] trivial
theorem ok32:OKP (en32 F32):=ST.ok1 (q32 F61 (V3 FUEL)) (Aa ok61 Ab) Tryz.func32 [1] ⟨⟨_,rfl,lok32_1⟩,trivial⟩
abbrev zay:=(R:Type)→Tq5→(Int→Option R)→Option R
def en242 (F:zay):Ent:=eV 242 [Kq5] [(.int .u64)] F
def p242:zay:=fun R a0 k=>
k a0.2.1
theorem q242:EQ (en242 p242) (sE 0 5 [] [] []) Tryz.f242 [(.tmp 2,32,false)]:=fun _ _ _=>by kernel_rfl
def F242:zay:=p242
theorem ok242:OKP (en242 F242):=ST.ok0 q242 Ab Tryz.func242
abbrev Gw:Type 1:=(R:Type)→(List Tq5)→(LI→Option R)→Option R
def Fl (F:Gw):EntF:=⟨241,242,[(false,(.sl Kq5))],[(false,(.sl (.int .u64)))],fun R x k=>F R x.1 (fun y1=>k (y1,()) ())⟩
def Ua:List (ResultVar×TypeId×Bool):=[(.tmp 4,182,false)]
abbrev E0:Type 1:=(R:Type)→(List Tq5)→Int→Int→LI→(LI→Option R)→Option R
def Bm (L:E0):LEnt:=⟨3,[.fix 1 (.fn 242),.fix 5 (.own 0 0),.val 11 (.sl Kq5),.val 12 (.int .i64),.val 13 (.int .i64),.row 0 (.int .u64) false],1,[(.exit 0,[.fix 5 (.own 0 0),.row 0 (.int .u64) false])],fun R x ke=>L R x.1 x.2.1 x.2.2.1 x.2.2.2.1 (fun y1=>ke.1 (y1,()))⟩
def Ok (F242:zay) (L3:E0) (R:Type):Env R:=⟨TT,EQT,0,25,Bq [],Bd [en242 F242] R,Bi [Bm L3] R,[],Bf [],[],fun _ _ _ _=>none⟩
def Jr (F242:zay):(R:Type)→(List Tq5)→Int→Int→LI→((List Tq5)→Int→Int→LI→Option R)→(LI→Option R)→Option R:=fun R x1 x2 x3 x4 kc k0=>
let v5:=decide (x3<x2);(match v5 with
|true=>(match bnd x3 x1.length with
|true=>let v6:=x1.getD x3.toNat ((List.replicate 32 0),0,0,());F242 R v6 fun y7=>
let v8:=([y7]:LI);(match (decide (x4.length+v8.length≤17592186044416)) with
|true=>let v9:=x4++v8;let v10:=IntKind.i64.wrap (x3+1);kc x1 x2 v10 v9
|false=>none)
|false=>none)
|false=>k0 x4)
theorem zg5 (F242:zay) (L3:E0) (R:Type) (x:HT (Bm L3).H) (kc:HT (Bm L3).H→Option R) (ke:KT R (Bm L3).exs):
 exec (Ok F242 L3 R) (Cg 3 (Ai Tryz.f241)) (stOf (Bm L3).H x 1) (Mh (Bm L3).H (Bm L3).exs kc ke)=
  Jr F242 R x.1 x.2.1 x.2.2.1 x.2.2.2.1 (fun x1 x2 x3 x4=>kc (x1,x2,x3,x4,())) (fun y1=>ke.1 (y1,())):=by kernel_rfl
def Ba:Nat→E0
 | 0=>fun _ _ _ _ _ _=>none
 | n+1=>fun R x1 x2 x3 x4 k0=>Jr F242 R x1 x2 x3 x4 (fun x1 x2 x3 x4=>Ba n R x1 x2 x3 x4 k0) k0
def Xq (L3:E0):Gw:=fun R a0 k=>
let v1:=(a0.length:Int);(match (decide (0≤(0:Int)∧(0:Int)≤v1∧v1≤17592186044416)) with
|true=>let v2:=List.replicate 0 (0:Int);let v3:=(a0.length:Int);L3 R a0 v3 (0:Int) v2 (fun x4=>
k x4)
|false=>none)
theorem q242242 (F242:zay) (L3:E0) (F:Gw) (R:Type) (x:AT (Fl F).ins) (k:RT (Fl F).outs→PT (Fl F).ins→Option R):
 xfun (Ok F242 L3 R) (Ai Tryz.f241) Ua (avs (Fl F).ins x++[AV.fn 242]) (finK (Fl F).outs (Fl F).ins k)=Xq L3 R x.1 (fun y1=>k (y1,()) ()):=by kernel_rfl
def Dw:Gw:=Xq (Ba FUEL)
theorem U6 (R:Type):Az Tryz.prog (Ok F242 (Ba FUEL) R):=⟨tabOK,eqOK,Aq (Aa ok242 Ab),Bv,Ak,noYl⟩
def Ht:(R:Type)→HT (Bm (Ba FUEL)).H→(HT (Bm (Ba FUEL)).H→Option R)→KT R (Bm (Ba FUEL)).exs→Option R:=fun R x kc ke=>Jr F242 R x.1 x.2.1 x.2.2.1 x.2.2.2.1 (fun x1 x2 x3 x4=>kc (x1,x2,x3,x4,())) (fun y1=>ke.1 (y1,()))
theorem zet:∀(n:Nat) (R:Type) (x:HT (Bm (Ba FUEL)).H) (ke:KT R (Bm (Ba FUEL)).exs),iter Ht n R x ke=Ba n R x.1 x.2.1 x.2.2.1 x.2.2.2.1 (fun y1=>ke.1 (y1,())):=by
 intro n
 induction n with
 | zero=>intro R x ke; rfl
 | succ n ih=>
  intro R x ke;show Ht R x (fun x'=>iter Ht n R x' ke) ke=_
  rw [show (fun x'=>iter Ht n R x' ke)=fun x=>Ba n R x.1 x.2.1 x.2.2.1 x.2.2.2.1 (fun y1=>ke.1 (y1,())) from funext fun x'=>ih R x' ke];rfl
theorem X5:(Bm (Ba FUEL)).OK Tryz.prog 0 25 (Cg 3 (Ai Tryz.f241)):=⟨⟨fun _ h=>(by cases h),by kernel_rfl⟩,fun R x ke r h=>
 Ev (fun R=>Ok F242 (Ba FUEL) R) 0 25 (fun _=>rfl) (fun _=>rfl) (fun R=>U6 R) mixed (by
  intro R;rw [show Ap (Cg 3 (Ai Tryz.f241))=[] from by kernel_rfl];exact Br) (fun _ h=>(by cases h)) (N7 (by kernel_rfl)) (T:=Ht) (fun R x kc ke=>zg5 F242 (Ba FUEL) R x kc ke) FUEL R x ke r ((zet FUEL R x ke).trans h)⟩
theorem zsx:(Fl Dw).OK Tryz.prog:=
 Iz (Ef:=fun R=>Ok F242 (Ba FUEL) R) (fun R=>U6 R) mixed Tryz.func241 (body:=Ai Tryz.f241) (by kernel_rfl) (by kernel_rfl) (np:=0) (nt:=25) (fun _=>rfl) (fun _=>rfl) (by kernel_rfl) (res:=Ua) (by kernel_rfl) (fun _=>rfl) (fun _=>Nat.le_of_ble_eq_true rfl) (by
  intro R;rw [show Ap (Ai Tryz.f241)=[Cg 3 (Ai Tryz.f241)] from by kernel_rfl];exact (Af (Ia (e:=Bm (Ba FUEL)) rfl rfl X5) Br)) (fun R x k=>q242242 F242 (Ba FUEL) Dw R x k)
abbrev Kh:=(R:Type)→(List Tq5)→(LI→Option R)→Option R
def Zd (F:Kh):Ent:=eV 190 [(.sl Kq5)] [(.sl (.int .u64))] F
def e190 (Dw:Gw) (R:Type):Env R:=⟨TT,EQT,0,5,Bq [],Ei [Fl Dw] [] R,Bi [] R,[],Bf [],[],fun _ _ _ _=>none⟩
def p190 (Dw:Gw):Kh:=fun R a0 k=>
Dw R a0 fun y1=>
k y1
theorem q190 (Dw:Gw):EQ (Zd (p190 Dw)) (e190 Dw) Tryz.f190 [(.tmp 2,182,false)]:=fun _ _ _=>by kernel_rfl
def F190:Kh:=p190 Dw
theorem env190 (R:Type):Az Tryz.prog (e190 Dw R):=⟨tabOK,eqOK,Cn (Fc zsx Ep) Ab,Bv,Ak,noYl⟩
theorem zig:OKP (Zd F190):=ST.ok3 (q190 Dw) env190 Tryz.func190 (fun _=>rfl) (fun _=>rfl) (fun _=>rfl) [] trivial
abbrev zwd:Type 1:=(R:Type)→Int→Int→Int→(Int→Int→Option R)→Option R
def en263 (F:zwd):Ent:=⟨263,[(false,(.int .u64)),(false,(.int .u64)),(false,(.int .u64))],[(false,(.int .u64)),(false,(.int .u64))],fun R x k=>F R x.1 x.2.1 x.2.2.1 (fun y1 y2=>k (y1,y2,()) ())⟩
def F263:zwd:=fun R a0 a1 a2 k=>match decide (0≤a0∧0≤a1∧0≤a2∧a2≤1) with | true=>k ((a0+a1+a2) % 18446744073709551616) ((a0+a1+a2)/18446744073709551616) | false=>none
theorem ok263:(en263 F263).OK Tryz.prog:=zv6 Tryz.func263 (by kernel_rfl) (by kernel_rfl) (by kernel_rfl) (by kernel_rfl)
abbrev znj:=(R:Type)→Int→(Bool→Option R)→Option R
def en286 (F:znj):Ent:=eV 286 [(.int .u64)] [.bool] F
def p286:znj:=fun R a0 k=>
let v1:=decide (a0<9223372036854775808);k v1
theorem q286:EQ (en286 p286) (sE 0 5 [] [] []) Tryz.f286 [(.tmp 2,4,false)]:=fun _ _ _=>by kernel_rfl
def F286:znj:=p286
theorem ok286:OKP (en286 F286):=ST.ok0 q286 Ab Tryz.func286
abbrev zau:=(R:Type)→Int→Int→(Int→Bool→Option R)→Option R
def zvg (F:zau):Ent:=eV 262 [(.int .u64),(.int .u64)] [(.int .u64),.bool] F
def p262 (F286:znj):zau:=fun R a0 a1 k=>
let v1:=a1 !=0;(match v1 with
|true=>k (0:Int) false
|false=>F286 R a0 fun y2=>
(match (!y2) with
|true=>k (0:Int) false
|false=>k a0 true))
theorem q262 (F286:znj):EQ (zvg (p262 F286)) (sE 0 14 [] [en286 F286] []) Tryz.f262 [(.tmp 4,32,false),(.tmp 5,4,false)]:=fun _ _ _=>by kernel_rfl
def F262:zau:=p262 F286
theorem ok262:OKP (zvg F262):=ST.ok0 (q262 F286) (Aa ok286 Ab) Tryz.func262
abbrev Kg:=(R:Type)→Int→Int→(Int→Bool→Option R)→Option R
def zki (F:Kg):Ent:=eV 225 [(.int .u64),(.int .u64)] [(.int .u64),.bool] F
def p225 (F262:zau) (F263:zwd):Kg:=fun R a0 a1 k=>
F263 R a0 a1 (0:Int) fun y1 y2=>
F262 R y1 y2 fun y3 y4=>
k y3 y4
theorem q225 (F262:zau) (F263:zwd):EQ (zki (p225 F262 F263)) (sE 0 14 [] [zvg F262,en263 F263] []) Tryz.f225 [(.tmp 4,32,false),(.tmp 5,4,false)]:=fun _ _ _=>by kernel_rfl
def F225:Kg:=p225 F262 F263
theorem zie:OKP (zki F225):=ST.ok0 (q225 F262 F263) (Aa ok262 (Aa ok263 Ab)) Tryz.func225
abbrev Je:=(R:Type)→LI→(Int→Bool→Option R)→Option R
def ze6 (F:Je):Ent:=eV 223 [(.sl (.int .u64))] [(.int .u64),.bool] F
abbrev zqp (Z:Type):=Int→LI→Int→Int→Z
abbrev E223_2 (R:Type):=(Int→Bool→Option R)→(Int→Option R)→Option R
abbrev Ls:=(R:Type)→zqp (E223_2 R)
def Yt (L:Ls):LEnt:=lM 2 [.val 2 (.int .u64),.val 6 (.sl (.int .u64)),.val 7 (.int .i64),.val 8 (.int .i64)] 0 [(.ret,[.val 2 (.int .u64),.val 3 .bool]),(.exit 0,[.val 2 (.int .u64)])] L
def e223 (F225:Kg) (L2:Ls):=sE 0 22 [] [zki F225] [Yt L2]
def zhx (F225:Kg) (R:Type):zqp (zqp (Option R)→E223_2 R):=fun x1 x2 x3 x4 kc k0 k1=>
let v5:=decide (x4<x3);(match v5 with
|true=>(match bnd x4 x2.length with
|true=>let v6:=x2.getD x4.toNat 0;F225 R x1 v6 fun y7 y8=>
(match (!y8) with
|true=>k0 (0:Int) false
|false=>let v9:=IntKind.i64.wrap (x4+1);kc y7 x2 x3 v9)
|false=>none)
|false=>k1 x1)
theorem q223_2 (F225:Kg) (L2:Ls):LEQ (Yt L2) (e223 F225 L2) Tryz.f223 (zhx F225):=fun _ _ _ _=>by kernel_rfl
def Pj:Nat→Ls
 | 0=>fun _ _ _ _ _ _ _=>none
 | n+1=>fun R x1 x2 x3 x4 k0 k1=>zhx F225 R x1 x2 x3 x4 (fun x1 x2 x3 x4=>Pj n R x1 x2 x3 x4 k0 k1) k0 k1
def p223 (L2:Ls):Je:=fun R a0 k=>
let v1:=(a0.length:Int);L2 R (0:Int) a0 v1 (0:Int) (fun x2 x3=>
k x2 x3) (fun x4=>
k x4 true)
theorem q223 (F225:Kg) (L2:Ls):EQ (ze6 (p223 L2)) (e223 F225 L2) Tryz.f223 [(.tmp 2,32,false),(.tmp 3,4,false)]:=fun _ _ _=>by kernel_rfl
def F223:Je:=p223 (Pj FUEL)
theorem ztw:LKP (Yt (Pj FUEL)) 0 22 2 Tryz.f223:=ST.lok (q223_2 F225 (Pj FUEL)) (Aa zie Ab) [] trivial
theorem zif:OKP (ze6 F223):=ST.ok1 (q223 F225 (Pj FUEL)) (Aa zie Ab) Tryz.func223 [2] ⟨⟨_,rfl,ztw⟩,trivial⟩
abbrev zav:=(R:Type)→Tq5→(Int→Option R)→Option R
def en261 (F:zav):Ent:=eV 261 [Kq5] [(.int .u64)] F
def p261:zav:=fun R a0 k=>
k a0.2.2.1
theorem q261:EQ (en261 p261) (sE 0 5 [] [] []) Tryz.f261 [(.tmp 2,32,false)]:=fun _ _ _=>by kernel_rfl
def F261:zav:=p261
theorem ok261:OKP (en261 F261):=ST.ok0 q261 Ab Tryz.func261
abbrev Gv:Type 1:=(R:Type)→(List Tq5)→(LI→Option R)→Option R
def Fk (F:Gv):EntF:=⟨241,261,[(false,(.sl Kq5))],[(false,(.sl (.int .u64)))],fun R x k=>F R x.1 (fun y1=>k (y1,()) ())⟩
def T9:List (ResultVar×TypeId×Bool):=[(.tmp 4,182,false)]
abbrev Ez:Type 1:=(R:Type)→(List Tq5)→Int→Int→LI→(LI→Option R)→Option R
def Bl (L:Ez):LEnt:=⟨3,[.fix 1 (.fn 261),.fix 5 (.own 0 0),.val 11 (.sl Kq5),.val 12 (.int .i64),.val 13 (.int .i64),.row 0 (.int .u64) false],1,[(.exit 0,[.fix 5 (.own 0 0),.row 0 (.int .u64) false])],fun R x ke=>L R x.1 x.2.1 x.2.2.1 x.2.2.2.1 (fun y1=>ke.1 (y1,()))⟩
def Oj (F261:zav) (L3:Ez) (R:Type):Env R:=⟨TT,EQT,0,25,Bq [],Bd [en261 F261] R,Bi [Bl L3] R,[],Bf [],[],fun _ _ _ _=>none⟩
def Jq (F261:zav):(R:Type)→(List Tq5)→Int→Int→LI→((List Tq5)→Int→Int→LI→Option R)→(LI→Option R)→Option R:=fun R x1 x2 x3 x4 kc k0=>
let v5:=decide (x3<x2);(match v5 with
|true=>(match bnd x3 x1.length with
|true=>let v6:=x1.getD x3.toNat ((List.replicate 32 0),0,0,());F261 R v6 fun y7=>
let v8:=([y7]:LI);(match (decide (x4.length+v8.length≤17592186044416)) with
|true=>let v9:=x4++v8;let v10:=IntKind.i64.wrap (x3+1);kc x1 x2 v10 v9
|false=>none)
|false=>none)
|false=>k0 x4)
theorem zg4 (F261:zav) (L3:Ez) (R:Type) (x:HT (Bl L3).H) (kc:HT (Bl L3).H→Option R) (ke:KT R (Bl L3).exs):
 exec (Oj F261 L3 R) (Cg 3 (Ai Tryz.f241)) (stOf (Bl L3).H x 1) (Mh (Bl L3).H (Bl L3).exs kc ke)=
  Jq F261 R x.1 x.2.1 x.2.2.1 x.2.2.2.1 (fun x1 x2 x3 x4=>kc (x1,x2,x3,x4,())) (fun y1=>ke.1 (y1,())):=by kernel_rfl
def A9:Nat→Ez
 | 0=>fun _ _ _ _ _ _=>none
 | n+1=>fun R x1 x2 x3 x4 k0=>Jq F261 R x1 x2 x3 x4 (fun x1 x2 x3 x4=>A9 n R x1 x2 x3 x4 k0) k0
def Xp (L3:Ez):Gv:=fun R a0 k=>
let v1:=(a0.length:Int);(match (decide (0≤(0:Int)∧(0:Int)≤v1∧v1≤17592186044416)) with
|true=>let v2:=List.replicate 0 (0:Int);let v3:=(a0.length:Int);L3 R a0 v3 (0:Int) v2 (fun x4=>
k x4)
|false=>none)
theorem q242261 (F261:zav) (L3:Ez) (F:Gv) (R:Type) (x:AT (Fk F).ins) (k:RT (Fk F).outs→PT (Fk F).ins→Option R):
 xfun (Oj F261 L3 R) (Ai Tryz.f241) T9 (avs (Fk F).ins x++[AV.fn 261]) (finK (Fk F).outs (Fk F).ins k)=Xp L3 R x.1 (fun y1=>k (y1,()) ()):=by kernel_rfl
def Dv:Gv:=Xp (A9 FUEL)
theorem U5 (R:Type):Az Tryz.prog (Oj F261 (A9 FUEL) R):=⟨tabOK,eqOK,Aq (Aa ok261 Ab),Bv,Ak,noYl⟩
def Hs:(R:Type)→HT (Bl (A9 FUEL)).H→(HT (Bl (A9 FUEL)).H→Option R)→KT R (Bl (A9 FUEL)).exs→Option R:=fun R x kc ke=>Jq F261 R x.1 x.2.1 x.2.2.1 x.2.2.2.1 (fun x1 x2 x3 x4=>kc (x1,x2,x3,x4,())) (fun y1=>ke.1 (y1,()))
theorem zes:∀(n:Nat) (R:Type) (x:HT (Bl (A9 FUEL)).H) (ke:KT R (Bl (A9 FUEL)).exs),iter Hs n R x ke=A9 n R x.1 x.2.1 x.2.2.1 x.2.2.2.1 (fun y1=>ke.1 (y1,())):=by
 intro n
 induction n with
 | zero=>intro R x ke; rfl
 | succ n ih=>
  intro R x ke;show Hs R x (fun x'=>iter Hs n R x' ke) ke=_
  rw [show (fun x'=>iter Hs n R x' ke)=fun x=>A9 n R x.1 x.2.1 x.2.2.1 x.2.2.2.1 (fun y1=>ke.1 (y1,())) from funext fun x'=>ih R x' ke];rfl
theorem X4:(Bl (A9 FUEL)).OK Tryz.prog 0 25 (Cg 3 (Ai Tryz.f241)):=⟨⟨fun _ h=>(by cases h),by kernel_rfl⟩,fun R x ke r h=>
 Ev (fun R=>Oj F261 (A9 FUEL) R) 0 25 (fun _=>rfl) (fun _=>rfl) (fun R=>U5 R) mixed (by
  intro R;rw [show Ap (Cg 3 (Ai Tryz.f241))=[] from by kernel_rfl];exact Br) (fun _ h=>(by cases h)) (N7 (by kernel_rfl)) (T:=Hs) (fun R x kc ke=>zg4 F261 (A9 FUEL) R x kc ke) FUEL R x ke r ((zes FUEL R x ke).trans h)⟩
theorem zsw:(Fk Dv).OK Tryz.prog:=
 Iz (Ef:=fun R=>Oj F261 (A9 FUEL) R) (fun R=>U5 R) mixed Tryz.func241 (body:=Ai Tryz.f241) (by kernel_rfl) (by kernel_rfl) (np:=0) (nt:=25) (fun _=>rfl) (fun _=>rfl) (by kernel_rfl) (res:=T9) (by kernel_rfl) (fun _=>rfl) (fun _=>Nat.le_of_ble_eq_true rfl) (by
  intro R;rw [show Ap (Ai Tryz.f241)=[Cg 3 (Ai Tryz.f241)] from by kernel_rfl];exact (Af (Ia (e:=Bl (A9 FUEL)) rfl rfl X4) Br)) (fun R x k=>q242261 F261 (A9 FUEL) Dv R x k)
abbrev S5:=(R:Type)→(List Tq5)→(LI→Option R)→Option R
def zvo (F:S5):Ent:=eV 224 [(.sl Kq5)] [(.sl (.int .u64))] F
def e224 (Dv:Gv) (R:Type):Env R:=⟨TT,EQT,0,5,Bq [],Ei [Fk Dv] [] R,Bi [] R,[],Bf [],[],fun _ _ _ _=>none⟩
def p224 (Dv:Gv):S5:=fun R a0 k=>
Dv R a0 fun y1=>
k y1
theorem q224 (Dv:Gv):EQ (zvo (p224 Dv)) (e224 Dv) Tryz.f224 [(.tmp 2,182,false)]:=fun _ _ _=>by kernel_rfl
def F224:S5:=p224 Dv
theorem env224 (R:Type):Az Tryz.prog (e224 Dv R):=⟨tabOK,eqOK,Cn (Fc zsw Ep) Ab,Bv,Ak,noYl⟩
theorem ok224:OKP (zvo F224):=ST.ok3 (q224 Dv) env224 Tryz.func224 (fun _=>rfl) (fun _=>rfl) (fun _=>rfl) [] trivial
abbrev P4:Type 1:=(R:Type)→(List Tq5)→((List Tq12)→Option R)→Option R
def Sc (F:P4):EntR:=⟨222,(.arr 32 (.int .u8)),(.int .i64),[(false,(.sl Kq5))],fun R x k=>F R x.1 k⟩
abbrev Lt:Type 1:=(R:Type)→(List Tq5)→Int→Int→(List Tq12)→((List Tq12)→Option R)→Option R
def C8 (L:Lt):LEnt:=⟨3,[.fix 3 (.mp 0),.val 11 (.sl Kq5),.val 12 (.int .i64),.val 13 (.int .i64),.map 0 (.arr 32 (.int .u8)) (.int .i64)],1,[(.exit 0,[.fix 3 (.mp 0),.map 0 (.arr 32 (.int .u8)) (.int .i64)])],fun R x ke=>L R x.1 x.2.1 x.2.2.1 x.2.2.2.1 (fun y1=>ke.1 (y1,()))⟩
def e222 (L3:Lt) (R:Type):Env R:=⟨TT,EQT,0,33,Bq [],Bd [] R,Bi [C8 L3] R,[],Bf [],[],fun _ _ _ _=>none⟩
def zck:(R:Type)→(List Tq5)→Int→Int→(List Tq12)→((List Tq5)→Int→Int→(List Tq12)→Option R)→((List Tq12)→Option R)→Option R:=fun R x1 x2 x3 x4 kc k0=>
let v5:=decide (x3<x2);(match v5 with
|true=>(match bnd x3 x1.length with
|true=>let v6:=x1.getD x3.toNat ((List.replicate 32 0),0,0,());let v7:=Option.getD (Bx (Kd.eqv (.arr 32 (.int .u8))) x4 v6.1) (0:Int);let v8:=Option.isSome (Bx (Kd.eqv (.arr 32 (.int .u8))) x4 v6.1);(match (!v8) with
|true=>(match (Option.isNone (Bx (Kd.eqv (.arr 32 (.int .u8))) x4 v6.1)) with
|true=>let v9:=x4++[(v6.1,x3)];let v10:=IntKind.i64.wrap (x3+1);kc x1 x2 v10 v9
|false=>none)
|false=>let v11:=IntKind.i64.wrap (x3+1);kc x1 x2 v11 x4)
|false=>none)
|false=>k0 x4)
theorem q222_3 (L3:Lt) (R:Type) (x:HT (C8 L3).H) (kc:HT (C8 L3).H→Option R) (ke:KT R (C8 L3).exs):
 exec (e222 L3 R) (Cg 3 (Ai Tryz.f222)) (stOf (C8 L3).H x 1) (Mh (C8 L3).H (C8 L3).exs kc ke)=
  zck R x.1 x.2.1 x.2.2.1 x.2.2.2.1 (fun x1 x2 x3 x4=>kc (x1,x2,x3,x4,())) (fun y1=>ke.1 (y1,())):=by kernel_rfl
def Dg:Nat→Lt
 | 0=>fun _ _ _ _ _ _=>none
 | n+1=>fun R x1 x2 x3 x4 k0=>zck R x1 x2 x3 x4 (fun x1 x2 x3 x4=>Dg n R x1 x2 x3 x4 k0) k0
def p222 (L3:Lt):P4:=fun R a0 k=>
let v1:=(a0.length:Int);let v2:=(a0.length:Int);L3 R a0 v2 (0:Int) ([]:List (LI×Int)) (fun x3=>
k x3)
theorem q222 (L3:Lt) (F:P4) (R:Type) (x:AT (Sc F).ins) (k:List ((Sc F).kk.T×(Sc F).kv.T)→Option R):
 zru (e222 L3 R) (Ai Tryz.f222) 2 (Sc F).kk (Sc F).kv (avs (Sc F).ins x) k=p222 L3 R x.1 k:=by kernel_rfl
def F222:P4:=p222 (Dg FUEL)
theorem zxc (R:Type):Az Tryz.prog (e222 (Dg FUEL) R):=⟨tabOK,eqOK,Aq Ab,Bv,Ak,noYl⟩
def Vv:(R:Type)→HT (C8 (Dg FUEL)).H→(HT (C8 (Dg FUEL)).H→Option R)→KT R (C8 (Dg FUEL)).exs→Option R:=fun R x kc ke=>zck R x.1 x.2.1 x.2.2.1 x.2.2.2.1 (fun x1 x2 x3 x4=>kc (x1,x2,x3,x4,())) (fun y1=>ke.1 (y1,()))
theorem it222_3:∀(n:Nat) (R:Type) (x:HT (C8 (Dg FUEL)).H) (ke:KT R (C8 (Dg FUEL)).exs),iter Vv n R x ke=Dg n R x.1 x.2.1 x.2.2.1 x.2.2.2.1 (fun y1=>ke.1 (y1,())):=by
 intro n
 induction n with
 | zero=>intro R x ke; rfl
 | succ n ih=>
  intro R x ke;show Vv R x (fun x'=>iter Vv n R x' ke) ke=_
  rw [show (fun x'=>iter Vv n R x' ke)=fun x=>Dg n R x.1 x.2.1 x.2.2.1 x.2.2.2.1 (fun y1=>ke.1 (y1,())) from funext fun x'=>ih R x' ke];rfl
theorem ztx:(C8 (Dg FUEL)).OK Tryz.prog 0 33 (Cg 3 (Ai Tryz.f222)):=⟨⟨fun _ h=>(by cases h),by kernel_rfl⟩,fun R x ke r h=>
 Ev (fun R=>e222 (Dg FUEL) R) 0 33 (fun _=>rfl) (fun _=>rfl) (fun R=>zxc R) mixed (by
  intro R;rw [show Ap (Cg 3 (Ai Tryz.f222))=[] from by kernel_rfl];exact Br) (fun _ h=>(by cases h)) (N7 (by kernel_rfl)) (T:=Vv) (fun R x kc ke=>q222_3 (Dg FUEL) R x kc ke) FUEL R x ke r ((it222_3 FUEL R x ke).trans h)⟩
theorem ok222:(Sc F222).OK Tryz.prog:=
 ent_okR (Ef:=fun R=>e222 (Dg FUEL) R) (fun R=>zxc R) mixed Tryz.func222 (body:=Ai Tryz.f222) (by kernel_rfl) (by kernel_rfl) (nt:=33) (fun _=>rfl) (fun _=>rfl) (by kernel_rfl) (t:=2) (by kernel_rfl) (fun _=>Nat.le_of_ble_eq_true rfl) (by
  intro R;rw [show Ap (Ai Tryz.f222)=[Cg 3 (Ai Tryz.f222)] from by kernel_rfl];exact (Af (Ia (e:=C8 (Dg FUEL)) rfl rfl ztx) Br)) (fun R x k=>q222 (Dg FUEL) F222 R x k)
abbrev Wo:=(R:Type)→(List Tq5)→(Bool→Option R)→Option R
def zvp (F:Wo):Ent:=eV 221 [(.sl Kq5)] [.bool] F
def e221 (F190:Kh) (F222:P4) (F223:Je) (F224:S5) (R:Type):Env R:=⟨TT,EQT,0,36,Bq [(3,11)],Bd [Zd F190,ze6 F223,zvo F224] R,Bi [] R,[],Bf [(222,inlR 0 (Sc F222) R)],[],fun _ _ _ _=>none⟩
def p221 (F190:Kh) (F222:P4) (F223:Je) (F224:S5):Wo:=fun R a0 k=>
F190 R a0 fun y1=>
F223 R y1 fun y2 y3=>
F224 R a0 fun y4=>
F223 R y4 fun y5 y6=>
(match y3 with
|true=>(match y6 with
|true=>let v7:=(a0.length:Int);let v8:=decide (v7≤1048576);(match v8 with
|true=>F222 R a0 fun m9=>
let v10:=(m9.length:Int);let v11:=(a0.length:Int);let v12:=v10==v11;k v12
|false=>k false)
|false=>k false)
|false=>k false)
theorem q221 (F190:Kh) (F222:P4) (F223:Je) (F224:S5):EQ (zvp (p221 F190 F222 F223 F224)) (e221 F190 F222 F223 F224) Tryz.f221 [(.tmp 2,4,false)]:=fun _ _ _=>by kernel_rfl
def F221:Wo:=p221 F190 F222 F223 F224
theorem env221 (R:Type):Az Tryz.prog (e221 F190 F222 F223 F224 R):=⟨tabOK,eqOK,Aq (Aa zig (Aa zif (Aa ok224 Ab))),Bv,(Oc ok222 Ak),noYl⟩
theorem ok221:OKP (zvp F221):=ST.ok3 (q221 F190 F222 F223 F224) env221 Tryz.func221 (fun _=>rfl) (fun _=>rfl) (fun _=>rfl) [] trivial
def e226:Env (List (Kd.T Kq5)):=⟨TT,EQT,0,9,Bq [(1,5)],fun _ _ _=>none,fun _ _ _=>none,[],Bf [],[],fun _ _ _ _=>none⟩
theorem ok226:Ss Tryz.prog 226 Kq5 0:=
 clip_ok (e:=Kq5) (E:=e226) ⟨tabOK,eqOK,(fun f b K r h=>by cases h),Bv,Ak,noYl⟩ mixed Tryz.func226 (body:=Ai Tryz.f226) (by kernel_rfl) (by kernel_rfl) rfl (by kernel_rfl) (t:=2) (by kernel_rfl) (by decide) (by kernel_rfl) (fun l=>by kernel_rfl)
abbrev Wl:Type 1:=(R:Type)→(List Tq5)→((List Tq5)→Option R)→Option R
def en264 (F:Wl):Ent:=⟨264,[(false,(.sl Kq5))],[(true,Kq5)],fun R x k=>F R x.1 (fun y1=>k (y1,()) ())⟩
def e264:Env (RT [(true,Kq5)]):=⟨TT,EQT,0,8,Bq [(2,0),(3,0)],fun _ _ _=>none,fun _ _ _=>none,[],Bf [],[],fun _ _ _ _=>none⟩
def F264:Wl:=fun R a0 k=>match decide (List.length ([]:(List Tq5))+a0.length≤2932031007402) with | true=>k a0 | false=>none
theorem ok264:(en264 F264).OK Tryz.prog:=
 Ic (e:=Kq5) e264 ⟨tabOK,eqOK,(fun f b K r h=>by cases h),Bv,Ak,noYl⟩ mixed Tryz.func264 (body:=Ai Tryz.f264) (by kernel_rfl) (by kernel_rfl) (by kernel_rfl) (res:=[(.tmp 2,31,true)]) (by kernel_rfl) rfl (by decide) (by kernel_rfl) (lim:=2932031007402) (by kernel_rfl) (fun l=>by kernel_rfl)
abbrev P3:=(R:Type)→(List Tq5)→Int→Int→((List Tq5)→Option R)→Option R
def zkh (F:P3):Ent:=eV 227 [(.sl Kq5),(.int .i64),(.int .u64)] [(.sl Kq5)] F
def p227 (F264:Wl):P3:=fun R a0 a1 a2 k=>
F264 R a0 fun y1=>
(match bnd a1 y1.length with
|true=>let v2:=y1.set a1.toNat ((y1.getD a1.toNat ((List.replicate 32 0),0,0,())).1,(y1.getD a1.toNat ((List.replicate 32 0),0,0,())).2.1,a2,(y1.getD a1.toNat ((List.replicate 32 0),0,0,())).2.2.2);k v2
|false=>none)
theorem q227 (F264:Wl):EQ (zkh (p227 F264)) (sE 0 15 [] [en264 F264] []) Tryz.f227 [(.tmp 6,31,false)]:=fun _ _ _=>by kernel_rfl
def F227:P3:=p227 F264
theorem ok227:OKP (zkh F227):=ST.ok0 (q227 F264) (Aa ok264 Ab) Tryz.func227
abbrev zod:=(R:Type)→(List Tq5)→LI→Int→Int→((List Tq5)→Int→Int→Option R)→Option R
def en177 (F:zod):Ent:=eV 177 [(.sl Kq5),(.arr 32 (.int .u8)),(.int .u64),(.int .i64)] [(.sl Kq5),(.int .i64),(.int .i64)] F
def e177 (F221:Wo) (F222:P4) (F223:Je) (F224:S5) (F225:Kg) (F227:P3) (R:Type):Env R:=⟨TT,EQT,0,83,Bq [(3,1),(13,1)],Bd [zvp F221,ze6 F223,zvo F224,zki F225,zkh F227] R,Bi [] R,[(226,Kq5,0)],Bf [(222,inlR 0 (Sc F222) R)],[],fun _ _ _ _=>none⟩
def p177 (F221:Wo) (F222:P4) (F223:Je) (F224:S5) (F225:Kg) (F227:P3):zod:=fun R a0 a1 a2 a3 k=>
F221 R a0 fun y1=>
(match (!y1) with
|true=>k ([]:(List Tq5)) (0:Int) (1:Int)
|false=>let v2:=a2==0;(match v2 with
|true=>k ([]:(List Tq5)) (0:Int) (1:Int)
|false=>let v3:=decide (a3<1);(match v3 with
|true=>k ([]:(List Tq5)) (0:Int) (1:Int)
|false=>let v4:=decide (a3>1048576);(match v4 with
|true=>k ([]:(List Tq5)) (0:Int) (1:Int)
|false=>F222 R a0 fun m5=>
let v6:=Option.getD (Bx (Kd.eqv (.arr 32 (.int .u8))) m5 a1) (0:Int);let v7:=Option.isSome (Bx (Kd.eqv (.arr 32 (.int .u8))) m5 a1);(match (!v7) with
|true=>let v8:=(a0.length:Int);let v9:=decide (v8≥a3);(match v9 with
|true=>(match (!v7) with
|true=>k ([]:(List Tq5)) (0:Int) (4:Int)
|false=>F224 R a0 fun y10=>
F223 R y10 fun y11 y12=>
F225 R y11 a2 fun y13 y14=>
(match (!y14) with
|true=>k ([]:(List Tq5)) (0:Int) (11:Int)
|false=>(match (!v7) with
|true=>let v15:=([(a1,(0:Int),(0:Int),())]:(List Tq5));(match (decide (0<v15.length∧a0.length+v15.length≤2932031007402)) with
|true=>let v16:=a0++v15;(match bnd v8 v16.length with
|true=>let v17:=(v16.getD v8.toNat ((List.replicate 32 0),0,0,())).2.2.1;let v18:=IntKind.u64.wrap (v17+a2);F227 R v16 v8 v18 fun y19=>
k y19 v8 (0:Int)
|false=>none)
|false=>none)
|false=>(match bnd v8 a0.length with
|true=>let v20:=(a0.getD v8.toNat ((List.replicate 32 0),0,0,())).2.2.1;let v21:=IntKind.u64.wrap (v20+a2);F227 R a0 v8 v21 fun y22=>
k y22 v8 (0:Int)
|false=>none))))
|false=>F224 R a0 fun y23=>
F223 R y23 fun y24 y25=>
F225 R y24 a2 fun y26 y27=>
(match (!y27) with
|true=>k ([]:(List Tq5)) (0:Int) (11:Int)
|false=>(match (!v7) with
|true=>let v28:=([(a1,(0:Int),(0:Int),())]:(List Tq5));(match (decide (0<v28.length∧a0.length+v28.length≤2932031007402)) with
|true=>let v29:=a0++v28;(match bnd v8 v29.length with
|true=>let v30:=(v29.getD v8.toNat ((List.replicate 32 0),0,0,())).2.2.1;let v31:=IntKind.u64.wrap (v30+a2);F227 R v29 v8 v31 fun y32=>
k y32 v8 (0:Int)
|false=>none)
|false=>none)
|false=>(match bnd v8 a0.length with
|true=>let v33:=(a0.getD v8.toNat ((List.replicate 32 0),0,0,())).2.2.1;let v34:=IntKind.u64.wrap (v33+a2);F227 R a0 v8 v34 fun y35=>
k y35 v8 (0:Int)
|false=>none))))
|false=>let v36:=decide (v6≥a3);(match v36 with
|true=>(match (!v7) with
|true=>k ([]:(List Tq5)) (0:Int) (4:Int)
|false=>F224 R a0 fun y37=>
F223 R y37 fun y38 y39=>
F225 R y38 a2 fun y40 y41=>
(match (!y41) with
|true=>k ([]:(List Tq5)) (0:Int) (11:Int)
|false=>(match (!v7) with
|true=>let v42:=([(a1,(0:Int),(0:Int),())]:(List Tq5));(match (decide (0<v42.length∧a0.length+v42.length≤2932031007402)) with
|true=>let v43:=a0++v42;(match bnd v6 v43.length with
|true=>let v44:=(v43.getD v6.toNat ((List.replicate 32 0),0,0,())).2.2.1;let v45:=IntKind.u64.wrap (v44+a2);F227 R v43 v6 v45 fun y46=>
k y46 v6 (0:Int)
|false=>none)
|false=>none)
|false=>(match bnd v6 a0.length with
|true=>let v47:=(a0.getD v6.toNat ((List.replicate 32 0),0,0,())).2.2.1;let v48:=IntKind.u64.wrap (v47+a2);F227 R a0 v6 v48 fun y49=>
k y49 v6 (0:Int)
|false=>none))))
|false=>F224 R a0 fun y50=>
F223 R y50 fun y51 y52=>
F225 R y51 a2 fun y53 y54=>
(match (!y54) with
|true=>k ([]:(List Tq5)) (0:Int) (11:Int)
|false=>(match (!v7) with
|true=>let v55:=([(a1,(0:Int),(0:Int),())]:(List Tq5));(match (decide (0<v55.length∧a0.length+v55.length≤2932031007402)) with
|true=>let v56:=a0++v55;(match bnd v6 v56.length with
|true=>let v57:=(v56.getD v6.toNat ((List.replicate 32 0),0,0,())).2.2.1;let v58:=IntKind.u64.wrap (v57+a2);F227 R v56 v6 v58 fun y59=>
k y59 v6 (0:Int)
|false=>none)
|false=>none)
|false=>(match bnd v6 a0.length with
|true=>let v60:=(a0.getD v6.toNat ((List.replicate 32 0),0,0,())).2.2.1;let v61:=IntKind.u64.wrap (v60+a2);F227 R a0 v6 v61 fun y62=>
k y62 v6 (0:Int)
|false=>none)))))))))
theorem q177 (F221:Wo) (F222:P4) (F223:Je) (F224:S5) (F225:Kg) (F227:P3):EQ (en177 (p177 F221 F222 F223 F224 F225 F227)) (e177 F221 F222 F223 F224 F225 F227) Tryz.f177 [(.tmp 8,31,false),(.tmp 9,3,false),(.tmp 10,40,false)]:=fun _ _ _=>by kernel_rfl
def F177:zod:=p177 F221 F222 F223 F224 F225 F227
theorem env177 (R:Type):Az Tryz.prog (e177 F221 F222 F223 F224 F225 F227 R):=⟨tabOK,eqOK,Aq (Aa ok221 (Aa zif (Aa ok224 (Aa zie (Aa ok227 Ab))))),zw7 ok226,(Oc ok222 Ak),noYl⟩
theorem ok177:OKP (en177 F177):=ST.ok3 (q177 F221 F222 F223 F224 F225 F227) env177 Tryz.func177 (fun _=>rfl) (fun _=>rfl) (fun _=>rfl) [] trivial
abbrev zf3:=(R:Type)→Tq31→Tq11→(Int→Tq31→Option R)→Option R
def en126 (F:zf3):Ent:=eM 126 [(true,Kq31),(false,Kq11)] [(false,(.int .i64))] F
def p126 (F177:zod):zf3:=fun R a0 a1 k=>
F177 R a0.1.2.2.1 a1.2.2.2.1 a1.2.2.1 a0.1.1.2.2.2.2.1 fun y1 y2 y3=>
let v4:=IntKind.u64.wrap y2;k y3 ((a0.1.1,a0.1.2.1,y1,a0.1.2.2.2),(a0.2.1.1,v4,a0.2.1.2.2),a0.2.2)
theorem q126 (F177:zod):EQ (en126 (p126 F177)) (sE 1 40 [] [en177 F177] []) Tryz.f126 [(.tmp 4,40,false)]:=fun _ _ _=>by kernel_rfl
def F126:zf3:=p126 F177
theorem ok126:OKP (en126 F126):=ST.ok0 (q126 F177) (Aa ok177 Ab) Tryz.func126
abbrev za4:=(R:Type)→(List Tq5)→Int→(Int→Option R)→Option R
def zvn (F:za4):Ent:=eV 228 [(.sl Kq5),(.int .i64)] [(.int .i64)] F
def p228 (F221:Wo):za4:=fun R a0 a1 k=>
F221 R a0 fun y1=>
(match (!y1) with
|true=>k (1:Int)
|false=>let v2:=decide (a1<0);(match v2 with
|true=>k (5:Int)
|false=>let v3:=(a0.length:Int);let v4:=decide (a1≥v3);(match v4 with
|true=>k (5:Int)
|false=>k (0:Int))))
theorem q228 (F221:Wo):EQ (zvn (p228 F221)) (sE 0 18 [] [zvp F221] []) Tryz.f228 [(.tmp 4,40,false)]:=fun _ _ _=>by kernel_rfl
def F228:za4:=p228 F221
theorem ok228:OKP (zvn F228):=ST.ok0 (q228 F221) (Aa ok221 Ab) Tryz.func228
abbrev zoc:=(R:Type)→(List Tq5)→Int→Int→((List Tq5)→Int→Int→Option R)→Option R
def en178 (F:zoc):Ent:=eV 178 [(.sl Kq5),(.int .i64),(.int .u64)] [(.sl Kq5),(.int .u64),(.int .i64)] F
def p178 (F227:P3) (F228:za4):zoc:=fun R a0 a1 a2 k=>
F228 R a0 a1 fun y1=>
let v2:=a2==0;(match v2 with
|true=>k ([]:(List Tq5)) (0:Int) (1:Int)
|false=>let v3:=y1 !=0;(match v3 with
|true=>k ([]:(List Tq5)) (0:Int) y1
|false=>(match bnd a1 a0.length with
|true=>let v4:=(a0.getD a1.toNat ((List.replicate 32 0),0,0,())).2.2.1;let v5:=decide (a2>v4);(match v5 with
|true=>k ([]:(List Tq5)) (0:Int) (12:Int)
|false=>(match bnd a1 a0.length with
|true=>let v6:=(a0.getD a1.toNat ((List.replicate 32 0),0,0,())).2.2.1;let v7:=IntKind.u64.wrap (v6 - a2);F227 R a0 a1 v7 fun y8=>
k y8 v7 (0:Int)
|false=>none))
|false=>none)))
theorem q178 (F227:P3) (F228:za4):EQ (en178 (p178 F227 F228)) (sE 0 41 [] [zkh F227,zvn F228] []) Tryz.f178 [(.tmp 6,31,false),(.tmp 7,32,false),(.tmp 8,40,false)]:=fun _ _ _=>by kernel_rfl
def F178:zoc:=p178 F227 F228
theorem ok178:OKP (en178 F178):=ST.ok0 (q178 F227 F228) (Aa ok227 (Aa ok228 Ab)) Tryz.func178
abbrev zf2:=(R:Type)→Tq31→Tq11→(Int→Tq31→Option R)→Option R
def en127 (F:zf2):Ent:=eM 127 [(true,Kq31),(false,Kq11)] [(false,(.int .i64))] F
def p127 (F178:zoc):zf2:=fun R a0 a1 k=>
F178 R a0.1.2.2.1 a1.2.1 a1.2.2.1 fun y1 y2 y3=>
k y3 ((a0.1.1,a0.1.2.1,y1,a0.1.2.2.2),(a0.2.1.1,y2,a0.2.1.2.2),a0.2.2)
theorem q127 (F178:zoc):EQ (en127 (p127 F178)) (sE 1 28 [] [en178 F178] []) Tryz.f127 [(.tmp 4,40,false)]:=fun _ _ _=>by kernel_rfl
def F127:zf2:=p127 F178
theorem ok127:OKP (en127 F127):=ST.ok0 (q127 F178) (Aa ok178 Ab) Tryz.func127
abbrev zob:=(R:Type)→(List Tq5)→Int→Int→((List Tq5)→Int→Int→Option R)→Option R
def en179 (F:zob):Ent:=eV 179 [(.sl Kq5),(.int .i64),(.int .u64)] [(.sl Kq5),(.int .u64),(.int .i64)] F
def p179 (F227:P3) (F228:za4):zob:=fun R a0 a1 a2 k=>
F228 R a0 a1 fun y1=>
let v2:=y1 !=0;(match v2 with
|true=>k ([]:(List Tq5)) (0:Int) y1
|false=>(match bnd a1 a0.length with
|true=>let v3:=(a0.getD a1.toNat ((List.replicate 32 0),0,0,())).2.2.1;let v4:=if v3<a2 then v3 else a2;(match bnd a1 a0.length with
|true=>let v5:=(a0.getD a1.toNat ((List.replicate 32 0),0,0,())).2.2.1;let v6:=IntKind.u64.wrap (v5 - v4);F227 R a0 a1 v6 fun y7=>
k y7 v4 (0:Int)
|false=>none)
|false=>none))
theorem q179 (F227:P3) (F228:za4):EQ (en179 (p179 F227 F228)) (sE 0 35 [] [zkh F227,zvn F228] []) Tryz.f179 [(.tmp 6,31,false),(.tmp 7,32,false),(.tmp 8,40,false)]:=fun _ _ _=>by kernel_rfl
def F179:zob:=p179 F227 F228
theorem ok179:OKP (en179 F179):=ST.ok0 (q179 F227 F228) (Aa ok227 (Aa ok228 Ab)) Tryz.func179
abbrev zf1:=(R:Type)→Tq31→Tq11→(Int→Tq31→Option R)→Option R
def en128 (F:zf1):Ent:=eM 128 [(true,Kq31),(false,Kq11)] [(false,(.int .i64))] F
def p128 (F179:zob):zf1:=fun R a0 a1 k=>
F179 R a0.1.2.2.1 a1.2.1 a1.2.2.1 fun y1 y2 y3=>
k y3 ((a0.1.1,a0.1.2.1,y1,a0.1.2.2.2),(a0.2.1.1,y2,a0.2.1.2.2),a0.2.2)
theorem q128 (F179:zob):EQ (en128 (p128 F179)) (sE 1 28 [] [en179 F179] []) Tryz.f128 [(.tmp 4,40,false)]:=fun _ _ _=>by kernel_rfl
def F128:zf1:=p128 F179
theorem ok128:OKP (en128 F128):=ST.ok0 (q128 F179) (Aa ok179 Ab) Tryz.func128
abbrev Pr:=(R:Type)→Tq31→Int→(Int→Tq31→Option R)→Option R
def zkm (F:Pr):Ent:=eM 180 [(true,Kq31),(false,(.int .i64))] [(false,(.int .i64))] F
def p180:Pr:=fun R a0 a1 k=>
let v1:=decide (a1<0);(match v1 with
|true=>k (5:Int) a0
|false=>let v2:=(a0.1.2.2.1.length:Int);let v3:=decide (a1≥v2);(match v3 with
|true=>k (5:Int) a0
|false=>k (0:Int) a0))
theorem q180:EQ (zkm p180) (sE 1 17 [] [] []) Tryz.f180 [(.tmp 4,40,false)]:=fun _ _ _=>by kernel_rfl
def F180:Pr:=p180
theorem ok180:OKP (zkm F180):=ST.ok0 q180 Ab Tryz.func180
abbrev za3:=(R:Type)→Tq21→Int→(Bool→Option R)→Option R
def zvm (F:za3):Ent:=eV 229 [Kq21,(.int .i64)] [.bool] F
def p229 (F58:FT58):za3:=fun R a0 a1 k=>
F58 R a0 fun y1=>
(match y1 with
|true=>let v2:=decide (a1≥0);(match v2 with
|true=>let v3:=decide (a1<a0.1);k v3
|false=>k false)
|false=>k false)
theorem q229 (F58:FT58):EQ (zvm (p229 F58)) (sE 0 17 [] [en58 F58] []) Tryz.f229 [(.tmp 4,4,false)]:=fun _ _ _=>by kernel_rfl
def F229:za3:=p229 F58
theorem ok229:OKP (zvm F229):=ST.ok0 (q229 F58) (Aa ok58 Ab) Tryz.func229
abbrev S8:=(R:Type)→Tq21→Int→(Int→Option R)→Option R
def zvu (F:S8):Ent:=eV 181 [Kq21,(.int .i64)] [(.int .i64)] F
def p181 (F229:za3):S8:=fun R a0 a1 k=>
F229 R a0 a1 fun y1=>
(match (!y1) with
|true=>k (0:Int)
|false=>let v2:=decide (a1<a0.2.1);(match v2 with
|true=>k (1:Int)
|false=>let v3:=IntKind.i64.wrap (a0.2.1+a0.2.2.1);let v4:=decide (a1<v3);(match v4 with
|true=>k (2:Int)
|false=>k (3:Int))))
theorem q181 (F229:za3):EQ (zvu (p181 F229)) (sE 0 23 [] [zvm F229] []) Tryz.f181 [(.tmp 4,3,false)]:=fun _ _ _=>by kernel_rfl
def F181:S8:=p181 F229
theorem ok181:OKP (zvu F181):=ST.ok0 (q181 F229) (Aa ok229 Ab) Tryz.func181
abbrev zn2:=(R:Type)→(LI→Option R)→Option R
def en208 (F:zn2):Ent:=eV 208 [] [(.arr 8 (.int .u32))] F
def p208:zn2:=fun R k=>
let v1:=List.set (List.set (List.set (List.set (List.set (List.set (List.set (List.set (List.replicate 8 (0:Int)) 0 (1779033703:Int)) 1 (3144134277:Int)) 2 (1013904242:Int)) 3 (2773480762:Int)) 4 (1359893119:Int)) 5 (2600822924:Int)) 6 (528734635:Int)) 7 (1541459225:Int);k v1
theorem q208:EQ (en208 p208) (sE 0 2 [] [] []) Tryz.f208 [(.cell 0 137,137,false)]:=fun _ _ _=>by kernel_rfl
def F208:zn2:=p208
theorem ok208:OKP (en208 F208):=ST.ok0 q208 Ab Tryz.func208
abbrev zof:=(R:Type)→(Tq33→Option R)→Option R
def en163 (F:zof):Ent:=eV 163 [] [Kq33] F
def p163 (F208:zn2):zof:=fun R k=>
F208 R  fun y1=>
k (y1,([]:LI),(0:Int),())
theorem q163 (F208:zn2):EQ (en163 (p163 F208)) (sE 0 3 [] [en208 F208] []) Tryz.f163 [(.cell 0 233,233,false)]:=fun _ _ _=>by kernel_rfl
def F163:zof:=p163 F208
theorem ok163:OKP (en163 F163):=ST.ok0 (q163 F208) (Aa ok208 Ab) Tryz.func163
abbrev za7:=(R:Type)→Tq33→(Bool→Option R)→Option R
def en206 (F:za7):Ent:=eV 206 [Kq33] [.bool] F
def p206:za7:=fun R a0 k=>
let v1:=decide (a0.2.2.1<2305843009213693952);(match v1 with
|true=>let v2:=(a0.2.1.length:Int);let v3:=IntKind.u64.wrap v2;let v4:=iand .u64 a0.2.2.1 (63:Int);let v5:=v3==v4;k v5
|false=>k false)
theorem q206:EQ (en206 p206) (sE 0 16 [] [] []) Tryz.f206 [(.tmp 2,4,false)]:=fun _ _ _=>by kernel_rfl
def F206:za7:=p206
theorem ok206:OKP (en206 F206):=ST.ok0 q206 Ab Tryz.func206
abbrev zwe:Type 1:=(R:Type)→LI→(LI→Option R)→Option R
def en255 (F:zwe):Ent:=⟨255,[(false,(.sl (.int .u8)))],[(true,(.int .u8))],fun R x k=>F R x.1 (fun y1=>k (y1,()) ())⟩
def e255:Env (RT [(true,(.int .u8))]):=⟨TT,EQT,0,8,Bq [(2,0),(3,0)],fun _ _ _=>none,fun _ _ _=>none,[],Bf [],[],fun _ _ _ _=>none⟩
def F255:zwe:=fun R a0 k=>match decide (List.length ([]:LI)+a0.length≤140737488355328) with | true=>k a0 | false=>none
theorem ok255:(en255 F255).OK Tryz.prog:=
 Ic (e:=(.int .u8)) e255 ⟨tabOK,eqOK,(fun f b K r h=>by cases h),Bv,Ak,noYl⟩ mixed Tryz.func255 (body:=Ai Tryz.f255) (by kernel_rfl) (by kernel_rfl) (by kernel_rfl) (res:=[(.tmp 2,25,true)]) (by kernel_rfl) rfl (by decide) (by kernel_rfl) (lim:=140737488355328) (by kernel_rfl) (fun l=>by kernel_rfl)
abbrev zax:=(R:Type)→LI→((List LI)→LI→Option R)→Option R
def en257 (F:zax):Ent:=eV 257 [(.sl (.int .u8))] [(.sl (.arr 64 (.int .u8))),(.sl (.int .u8))] F
abbrev zqg (Z:Type):=LI→(List LI)→Z
abbrev zz8 (R:Type):=(LI→(List LI)→Option R)→Option R
abbrev Ln:=(R:Type)→zqg (zz8 R)
def Yo (L:Ln):LEnt:=lM 1 [.val 0 (.sl (.int .u8)),.fix 2 (.own 0 0),.row 0 (.arr 64 (.int .u8)) false] 1 [(.exit 0,[.val 0 (.sl (.int .u8)),.fix 2 (.own 0 0),.row 0 (.arr 64 (.int .u8)) false])] L
def e257 (L1:Ln):=sE 0 17 [(0,0)] [] [Yo L1]
def zhs (R:Type):zqg (zqg (Option R)→zz8 R):=fun x1 x2 kc k0=>
let v3:=(x1.length:Int);let v4:=decide (v3≥64);(match v4 with
|true=>(match (decide ((64:Int)≤(x1.length:Int))) with
|true=>let v5:=List.take 64 x1;let v6:=([v5]:(List LI));(match (decide (x2.length+v6.length≤2199023255552)) with
|true=>let v7:=x2++v6;(match (decide (0≤(64:Int)∧(64:Int)≤(x1.length:Int)∧(x1.length:Int)≤(x1.length:Int)∧(x1.length:Int)≤(x1.length:Int))) with
|true=>let v8:=List.take (Int.toNat ((x1.length:Int) - (64:Int))) (List.drop 64 x1);kc v8 v7
|false=>none)
|false=>none)
|false=>none)
|false=>k0 x1 x2)
theorem q257_1 (L1:Ln):LEQ (Yo L1) (e257 L1) Tryz.f257 zhs:=fun _ _ _ _=>by kernel_rfl
def Pe:Nat→Ln
 | 0=>fun _ _ _ _=>none
 | n+1=>fun R x1 x2 k0=>zhs R x1 x2 (fun x1 x2=>Pe n R x1 x2 k0) k0
def p257 (L1:Ln):zax:=fun R a0 k=>
L1 R a0 ([]:(List LI)) (fun x1 x2=>
k x2 x1)
theorem q257 (L1:Ln):EQ (en257 (p257 L1)) (e257 L1) Tryz.f257 [(.tmp 2,131,false),(.tmp 3,25,false)]:=fun _ _ _=>by kernel_rfl
def F257:zax:=p257 (Pe FUEL)
theorem ztr:LKP (Yo (Pe FUEL)) 0 17 1 Tryz.f257:=ST.lok (q257_1 (Pe FUEL)) Ab [] trivial
theorem ok257:OKP (en257 F257):=ST.ok1 (q257 (Pe FUEL)) Ab Tryz.func257 [1] ⟨⟨_,rfl,ztr⟩,trivial⟩
abbrev Wj:=(R:Type)→(LI→Option R)→Option R
def en283 (F:Wj):Ent:=eV 283 [] [(.arr 64 (.int .u32))] F
def p283:Wj:=fun R k=>
let v1:=List.set (List.set (List.set (List.set (List.set (List.set (List.set (List.set (List.set (List.set (List.set (List.set (List.set (List.set (List.set (List.set (List.set (List.set (List.set (List.set (List.set (List.set (List.set (List.set (List.set (List.set (List.set (List.set (List.set (List.set (List.set (List.set (List.set (List.set (List.set (List.set (List.set (List.set (List.set (List.set (List.set (List.set (List.set (List.set (List.set (List.set (List.set (List.set (List.set (List.set (List.set (List.set (List.set (List.set (List.set (List.set (List.set (List.set (List.set (List.set (List.set (List.set (List.set (List.set (List.replicate 64 (0:Int)) 0 (1116352408:Int)) 1 (1899447441:Int)) 2 (3049323471:Int)) 3 (3921009573:Int)) 4 (961987163:Int)) 5 (1508970993:Int)) 6 (2453635748:Int)) 7 (2870763221:Int)) 8 (3624381080:Int)) 9 (310598401:Int)) 10 (607225278:Int)) 11 (1426881987:Int)) 12 (1925078388:Int)) 13 (2162078206:Int)) 14 (2614888103:Int)) 15 (3248222580:Int)) 16 (3835390401:Int)) 17 (4022224774:Int)) 18 (264347078:Int)) 19 (604807628:Int)) 20 (770255983:Int)) 21 (1249150122:Int)) 22 (1555081692:Int)) 23 (1996064986:Int)) 24 (2554220882:Int)) 25 (2821834349:Int)) 26 (2952996808:Int)) 27 (3210313671:Int)) 28 (3336571891:Int)) 29 (3584528711:Int)) 30 (113926993:Int)) 31 (338241895:Int)) 32 (666307205:Int)) 33 (773529912:Int)) 34 (1294757372:Int)) 35 (1396182291:Int)) 36 (1695183700:Int)) 37 (1986661051:Int)) 38 (2177026350:Int)) 39 (2456956037:Int)) 40 (2730485921:Int)) 41 (2820302411:Int)) 42 (3259730800:Int)) 43 (3345764771:Int)) 44 (3516065817:Int)) 45 (3600352804:Int)) 46 (4094571909:Int)) 47 (275423344:Int)) 48 (430227734:Int)) 49 (506948616:Int)) 50 (659060556:Int)) 51 (883997877:Int)) 52 (958139571:Int)) 53 (1322822218:Int)) 54 (1537002063:Int)) 55 (1747873779:Int)) 56 (1955562222:Int)) 57 (2024104815:Int)) 58 (2227730452:Int)) 59 (2361852424:Int)) 60 (2428436474:Int)) 61 (2756734187:Int)) 62 (3204031479:Int)) 63 (3329325298:Int);k v1
theorem q283:EQ (en283 p283) (sE 0 2 [] [] []) Tryz.f283 [(.cell 0 239,239,false)]:=fun _ _ _=>by kernel_rfl
def F283:Wj:=p283
theorem ok283:OKP (en283 F283):=ST.ok0 q283 Ab Tryz.func283
abbrev zaf:=(R:Type)→Int→Int→Int→Int→(Int→Option R)→Option R
def zu9 (F:zaf):Ent:=eV 322 [(.int .u32),(.int .i64),(.int .i64),(.int .i64)] [(.int .u32)] F
def p322 (F332:zaa) (F333:zna):zaf:=fun R a0 a1 a2 a3 k=>
F332 R a0 a1 fun y1=>
F332 R a0 a2 fun y2=>
let v3:=ixor .u32 y1 y2;F333 R a0 a3 fun y4=>
let v5:=ixor .u32 v3 y4;k v5
theorem q322 (F332:zaa) (F333:zna):EQ (zu9 (p322 F332 F333)) (sE 0 20 [] [zu5 F332,en333 F333] []) Tryz.f322 [(.tmp 8,47,false)]:=fun _ _ _=>by kernel_rfl
def F322:zaf:=p322 F332 F333
theorem ok322:OKP (zu9 F322):=ST.ok0 (q322 F332 F333) (Aa ok332 (Aa ok333 Ab)) Tryz.func322
abbrev zam:=(R:Type)→Int→(Int→Option R)→Option R
def en303 (F:zam):Ent:=eV 303 [(.int .u32)] [(.int .u32)] F
def p303 (F322:zaf):zam:=fun R a0 k=>
F322 R a0 (17:Int) (19:Int) (10:Int) fun y1=>
k y1
theorem q303 (F322:zaf):EQ (en303 (p303 F322)) (sE 0 5 [] [zu9 F322] []) Tryz.f303 [(.tmp 2,47,false)]:=fun _ _ _=>by kernel_rfl
def F303:zam:=p303 F322
theorem ok303:OKP (en303 F303):=ST.ok0 (q303 F322) (Aa ok322 Ab) Tryz.func303
abbrev zal:=(R:Type)→Int→(Int→Option R)→Option R
def en304 (F:zal):Ent:=eV 304 [(.int .u32)] [(.int .u32)] F
def p304 (F322:zaf):zal:=fun R a0 k=>
F322 R a0 (7:Int) (18:Int) (3:Int) fun y1=>
k y1
theorem q304 (F322:zaf):EQ (en304 (p304 F322)) (sE 0 5 [] [zu9 F322] []) Tryz.f304 [(.tmp 2,47,false)]:=fun _ _ _=>by kernel_rfl
def F304:zal:=p304 F322
theorem ok304:OKP (en304 F304):=ST.ok0 (q304 F322) (Aa ok322 Ab) Tryz.func304
abbrev Wi:=(R:Type)→LI→(LI→Option R)→Option R
def en284 (F:Wi):Ent:=eV 284 [(.arr 64 (.int .u8))] [(.arr 64 (.int .u32))] F
abbrev zp6 (Z:Type):=Int→LI→LI→Z
abbrev zzy (R:Type):=(LI→Option R)→Option R
abbrev Lh:=(R:Type)→zp6 (zzy R)
def Yf (L:Lh):LEnt:=lM 2 [.fix 1 (.ptr 0 [] (.arr 64 (.int .u8))),.fix 2 (.ptr 1 [] (.arr 64 (.int .u32))),.val 5 (.int .i64),.var 0 (.arr 64 (.int .u8)) false,.var 1 (.arr 64 (.int .u32)) false] 2 [(.exit 0,[.fix 2 (.ptr 1 [] (.arr 64 (.int .u32))),.var 1 (.arr 64 (.int .u32)) false])] L
def e284 (F220:Na) (F303:zam) (F304:zal) (L2:Lh):=sE 0 46 [] [zkj F220,en303 F303,en304 F304] [Yf L2]
def zhk (F220:Na) (F303:zam) (F304:zal) (R:Type):zp6 (zp6 (Option R)→zzy R):=fun x1 x2 x3 kc k0=>
let v4:=decide (x1<64);(match v4 with
|true=>let v5:=IntKind.i64.wrap ((4:Int)*x1);let v6:=decide (v5<64);(match v6 with
|true=>let v7:=IntKind.i64.wrap (v5+4);(match (decide (0≤v5∧v5≤v7∧v7≤64)) with
|true=>(match (decide ((4:Int)≤((Int.toNat (v7 - v5)):Nat))) with
|true=>let v8:=List.take 4 (List.drop v5.toNat x2);F220 R v8 fun y9=>
(match (bnd x1 (64:Int)) with
|true=>let v10:=x3.set x1.toNat y9;let v11:=IntKind.i64.wrap (x1+1);kc v11 x2 v10
|false=>none)
|false=>none)
|false=>none)
|false=>let v12:=IntKind.i64.wrap (x1 - 2);(match (bnd v12 (64:Int)) with
|true=>let v13:=x3.getD v12.toNat 0;F303 R v13 fun y14=>
let v15:=IntKind.i64.wrap (x1 - 7);(match (bnd v15 (64:Int)) with
|true=>let v16:=x3.getD v15.toNat 0;let v17:=IntKind.u32.wrap (y14+v16);let v18:=IntKind.i64.wrap (x1 - 15);(match (bnd v18 (64:Int)) with
|true=>let v19:=x3.getD v18.toNat 0;F304 R v19 fun y20=>
let v21:=IntKind.u32.wrap (v17+y20);let v22:=IntKind.i64.wrap (x1 - 16);(match (bnd v22 (64:Int)) with
|true=>let v23:=x3.getD v22.toNat 0;let v24:=IntKind.u32.wrap (v21+v23);(match (bnd x1 (64:Int)) with
|true=>let v25:=x3.set x1.toNat v24;let v26:=IntKind.i64.wrap (x1+1);kc v26 x2 v25
|false=>none)
|false=>none)
|false=>none)
|false=>none)
|false=>none))
|false=>k0 x3)
theorem q284_2 (F220:Na) (F303:zam) (F304:zal) (L2:Lh):LEQ (Yf L2) (e284 F220 F303 F304 L2) Tryz.f284 (zhk F220 F303 F304):=fun _ _ _ _=>by kernel_rfl
def O8:Nat→Lh
 | 0=>fun _ _ _ _ _=>none
 | n+1=>fun R x1 x2 x3 k0=>zhk F220 F303 F304 R x1 x2 x3 (fun x1 x2 x3=>O8 n R x1 x2 x3 k0) k0
def p284 (L2:Lh):Wi:=fun R a0 k=>
L2 R (0:Int) a0 (List.replicate 64 (0:Int)) (fun x1=>
k x1)
theorem q284 (F220:Na) (F303:zam) (F304:zal) (L2:Lh):EQ (en284 (p284 L2)) (e284 F220 F303 F304 L2) Tryz.f284 [(.cell 2 240,240,false)]:=fun _ _ _=>by kernel_rfl
def F284:Wi:=p284 (O8 FUEL)
theorem zti:LKP (Yf (O8 FUEL)) 0 46 2 Tryz.f284:=ST.lok (q284_2 F220 F303 F304 (O8 FUEL)) (Aa zsy (Aa ok303 (Aa ok304 Ab))) [] trivial
theorem ok284:OKP (en284 F284):=ST.ok1 (q284 F220 F303 F304 (O8 FUEL)) (Aa zsy (Aa ok303 (Aa ok304 Ab))) Tryz.func284 [2] ⟨⟨_,rfl,zti⟩,trivial⟩
abbrev zae:=(R:Type)→Int→Int→Int→Int→(Int→Option R)→Option R
def zu8 (F:zae):Ent:=eV 323 [(.int .u32),(.int .i64),(.int .i64),(.int .i64)] [(.int .u32)] F
def p323 (F332:zaa):zae:=fun R a0 a1 a2 a3 k=>
F332 R a0 a1 fun y1=>
F332 R a0 a2 fun y2=>
let v3:=ixor .u32 y1 y2;F332 R a0 a3 fun y4=>
let v5:=ixor .u32 v3 y4;k v5
theorem q323 (F332:zaa):EQ (zu8 (p323 F332)) (sE 0 20 [] [zu5 F332] []) Tryz.f323 [(.tmp 8,47,false)]:=fun _ _ _=>by kernel_rfl
def F323:zae:=p323 F332
theorem ok323:OKP (zu8 F323):=ST.ok0 (q323 F332) (Aa ok332 Ab) Tryz.func323
abbrev zng:=(R:Type)→Int→Int→Int→(Int→Option R)→Option R
def en305 (F:zng):Ent:=eV 305 [(.int .u32),(.int .u32),(.int .u32)] [(.int .u32)] F
def p305 (F323:zae):zng:=fun R a0 a1 a2 k=>
F323 R a0 (6:Int) (11:Int) (25:Int) fun y1=>
let v2:=iand .u32 a0 a1;let v3:=ixor .u32 (4294967295:Int) a0;let v4:=iand .u32 v3 a2;let v5:=ixor .u32 v2 v4;let v6:=IntKind.u32.wrap (y1+v5);k v6
theorem q305 (F323:zae):EQ (en305 (p305 F323)) (sE 0 18 [] [zu8 F323] []) Tryz.f305 [(.tmp 6,47,false)]:=fun _ _ _=>by kernel_rfl
def F305:zng:=p305 F323
theorem ok305:OKP (en305 F305):=ST.ok0 (q305 F323) (Aa ok323 Ab) Tryz.func305
abbrev znf:=(R:Type)→Int→Int→Int→(Int→Option R)→Option R
def en306 (F:znf):Ent:=eV 306 [(.int .u32),(.int .u32),(.int .u32)] [(.int .u32)] F
def p306 (F323:zae):znf:=fun R a0 a1 a2 k=>
F323 R a0 (2:Int) (13:Int) (22:Int) fun y1=>
let v2:=iand .u32 a0 a1;let v3:=iand .u32 a0 a2;let v4:=ixor .u32 v2 v3;let v5:=iand .u32 a1 a2;let v6:=ixor .u32 v4 v5;let v7:=IntKind.u32.wrap (y1+v6);k v7
theorem q306 (F323:zae):EQ (en306 (p306 F323)) (sE 0 21 [] [zu8 F323] []) Tryz.f306 [(.tmp 6,47,false)]:=fun _ _ _=>by kernel_rfl
def F306:znf:=p306 F323
theorem ok306:OKP (en306 F306):=ST.ok0 (q306 F323) (Aa ok323 Ab) Tryz.func306
abbrev Wh:=(R:Type)→LI→Int→Int→(LI→Option R)→Option R
def en285 (F:Wh):Ent:=eV 285 [(.arr 8 (.int .u32)),(.int .u32),(.int .u32)] [(.arr 8 (.int .u32))] F
def p285 (F305:zng) (F306:znf):Wh:=fun R a0 a1 a2 k=>
let v1:=a0.getD 7 0;let v2:=a0.getD 4 0;let v3:=a0.getD 5 0;let v4:=a0.getD 6 0;F305 R v2 v3 v4 fun y5=>
let v6:=IntKind.u32.wrap (v1+y5);let v7:=IntKind.u32.wrap (v6+a2);let v8:=IntKind.u32.wrap (v7+a1);let v9:=lay (List.replicate 8 (0:Int)) 1 (List.take 7 (List.take 7 (List.drop 0 a0)));let v10:=a0.getD 0 0;let v11:=a0.getD 1 0;let v12:=a0.getD 2 0;F306 R v10 v11 v12 fun y13=>
let v14:=IntKind.u32.wrap (v8+y13);let v15:=v9.set 0 v14;let v16:=v15.getD 4 0;let v17:=IntKind.u32.wrap (v16+v8);let v18:=v15.set 4 v17;k v18
theorem q285 (F305:zng) (F306:znf):EQ (en285 (p285 F305 F306)) (sE 0 41 [] [en305 F305,en306 F306] []) Tryz.f285 [(.cell 6 137,137,false)]:=fun _ _ _=>by kernel_rfl
def F285:Wh:=p285 F305 F306
theorem ok285:OKP (en285 F285):=ST.ok0 (q285 F305 F306) (Aa ok305 (Aa ok306 Ab)) Tryz.func285
abbrev zaw:=(R:Type)→LI→LI→(LI→Option R)→Option R
def en258 (F:zaw):Ent:=eV 258 [(.arr 8 (.int .u32)),(.arr 64 (.int .u8))] [(.arr 8 (.int .u32))] F
abbrev zqf (Z:Type):=LI→Int→LI→LI→LI→LI→Z
abbrev zz7 (R:Type):=(LI→LI→LI→Option R)→Option R
abbrev I7:=(R:Type)→zqf (zz7 R)
def Yn (L:I7):LEnt:=lM 3 [.fix 2 (.ptr 0 [] (.arr 8 (.int .u32))),.fix 4 (.ptr 2 [] (.arr 8 (.int .u32))),.fix 5 (.ptr 3 [] (.arr 8 (.int .u32))),.fix 6 (.ptr 4 [] (.arr 64 (.int .u32))),.val 13 (.arr 64 (.int .u32)),.val 14 (.int .i64),.var 0 (.arr 8 (.int .u32)) false,.var 2 (.arr 8 (.int .u32)) false,.var 3 (.arr 8 (.int .u32)) false,.var 4 (.arr 64 (.int .u32)) false] 5 [(.exit 0,[.fix 2 (.ptr 0 [] (.arr 8 (.int .u32))),.fix 4 (.ptr 2 [] (.arr 8 (.int .u32))),.fix 5 (.ptr 3 [] (.arr 8 (.int .u32))),.var 0 (.arr 8 (.int .u32)) false,.var 2 (.arr 8 (.int .u32)) false,.var 3 (.arr 8 (.int .u32)) false])] L
abbrev zqe (Z:Type):=Int→LI→LI→LI→Z
abbrev zz6 (R:Type):=(LI→LI→Option R)→Option R
abbrev I6:=(R:Type)→zqe (zz6 R)
def Ym (L:I6):LEnt:=lM 8 [.fix 2 (.ptr 0 [] (.arr 8 (.int .u32))),.fix 4 (.ptr 2 [] (.arr 8 (.int .u32))),.fix 5 (.ptr 3 [] (.arr 8 (.int .u32))),.val 25 (.int .i64),.var 0 (.arr 8 (.int .u32)) false,.var 2 (.arr 8 (.int .u32)) false,.var 3 (.arr 8 (.int .u32)) false] 4 [(.exit 2,[.fix 4 (.ptr 2 [] (.arr 8 (.int .u32))),.fix 5 (.ptr 3 [] (.arr 8 (.int .u32))),.var 2 (.arr 8 (.int .u32)) false,.var 3 (.arr 8 (.int .u32)) false])] L
def e258 (F283:Wj) (F284:Wi) (F285:Wh) (L3:I7) (L8:I6):=sE 0 38 [] [en283 F283,en284 F284,en285 F285] [Yn L3,Ym L8]
def zhr (F285:Wh) (R:Type):zqf (zqf (Option R)→zz7 R):=fun x1 x2 x3 x4 x5 x6 kc k0=>
let v7:=decide (x2<64);(match v7 with
|true=>(match (bnd x2 (64:Int)) with
|true=>let v8:=x1.getD x2.toNat 0;(match (bnd x2 (64:Int)) with
|true=>let v9:=x6.getD x2.toNat 0;F285 R x5 v8 v9 fun y10=>
let v11:=IntKind.i64.wrap (x2+1);kc x1 v11 x3 x4 y10 x6
|false=>none)
|false=>none)
|false=>k0 x3 x4 x5)
theorem q258_3 (F283:Wj) (F284:Wi) (F285:Wh) (L3:I7) (L8:I6):LEQ (Yn L3) (e258 F283 F284 F285 L3 L8) Tryz.f258 (zhr F285):=fun _ _ _ _=>by kernel_rfl
def My:Nat→I7
 | 0=>fun _ _ _ _ _ _ _ _=>none
 | n+1=>fun R x1 x2 x3 x4 x5 x6 k0=>zhr F285 R x1 x2 x3 x4 x5 x6 (fun x1 x2 x3 x4 x5 x6=>My n R x1 x2 x3 x4 x5 x6 k0) k0
def zhq (R:Type):zqe (zqe (Option R)→zz6 R):=fun x1 x2 x3 x4 kc k0=>
let v5:=decide (x1<8);(match v5 with
|true=>(match (bnd x1 (8:Int)) with
|true=>let v6:=x4.getD x1.toNat 0;(match (bnd x1 (8:Int)) with
|true=>let v7:=x2.getD x1.toNat 0;let v8:=IntKind.u32.wrap (v6+v7);(match (bnd x1 (8:Int)) with
|true=>let v9:=x4.set x1.toNat v8;let v10:=IntKind.i64.wrap (x1+1);kc v10 x2 x3 v9
|false=>none)
|false=>none)
|false=>none)
|false=>k0 x3 x4)
theorem q258_8 (F283:Wj) (F284:Wi) (F285:Wh) (L3:I7) (L8:I6):LEQ (Ym L8) (e258 F283 F284 F285 L3 L8) Tryz.f258 zhq:=fun _ _ _ _=>by kernel_rfl
def J7:Nat→I6
 | 0=>fun _ _ _ _ _ _=>none
 | n+1=>fun R x1 x2 x3 x4 k0=>zhq R x1 x2 x3 x4 (fun x1 x2 x3 x4=>J7 n R x1 x2 x3 x4 k0) k0
def p258 (F283:Wj) (F284:Wi) (L3:I7) (L8:I6):zaw:=fun R a0 a1 k=>
F283 R  fun y1=>
F284 R a1 fun y2=>
L3 R y2 (0:Int) a0 (List.replicate 8 (0:Int)) a0 y1 (fun x3 x4 x5=>
L8 R (0:Int) x3 x4 x5 (fun x6 x7=>
k x7))
theorem q258 (F283:Wj) (F284:Wi) (F285:Wh) (L3:I7) (L8:I6):EQ (en258 (p258 F283 F284 L3 L8)) (e258 F283 F284 F285 L3 L8) Tryz.f258 [(.cell 4 137,137,false)]:=fun _ _ _=>by kernel_rfl
def F258:zaw:=p258 F283 F284 (My FUEL) (J7 FUEL)
theorem ztq:LKP (Yn (My FUEL)) 0 38 3 Tryz.f258:=ST.lok (q258_3 F283 F284 F285 (My FUEL) (J7 FUEL)) (Aa ok283 (Aa ok284 (Aa ok285 Ab))) [] trivial
theorem ztp:LKP (Ym (J7 FUEL)) 0 38 8 Tryz.f258:=ST.lok (q258_8 F283 F284 F285 (My FUEL) (J7 FUEL)) (Aa ok283 (Aa ok284 (Aa ok285 Ab))) [] trivial
theorem ok258:OKP (en258 F258):=ST.ok1 (q258 F283 F284 F285 (My FUEL) (J7 FUEL)) (Aa ok283 (Aa ok284 (Aa ok285 Ab))) Tryz.func258 [3,8] ⟨⟨_,rfl,ztq⟩,⟨⟨_,rfl,ztp⟩,trivial⟩⟩
abbrev za5:=(R:Type)→Tq34→LI→(LI→Tq34→Option R)→Option R
def zvq (F:za5):Ent:=eM 210 [(true,Kq34),(false,(.sl (.int .u8)))] [(false,(.sl (.int .u8)))] F
abbrev zqt (Z:Type):=LI→(List LI)→Int→Int→Tq34→Z
abbrev E210_3 (R:Type):=(LI→Tq34→Option R)→Option R
abbrev Lw:=(R:Type)→zqt (E210_3 R)
def Yw (L:Lw):LEnt:=lM 3 [.fix 0 (.ptr 0 [] Kq34),.val 6 (.sl (.int .u8)),.val 14 (.sl (.arr 64 (.int .u8))),.val 15 (.int .i64),.val 16 (.int .i64),.var 0 Kq34 false] 1 [(.exit 0,[.val 6 (.sl (.int .u8)),.var 0 Kq34 false])] L
def e210 (F257:zax) (F258:zaw) (L3:Lw):=sE 1 33 [] [en257 F257,en258 F258] [Yw L3]
def zh0 (F258:zaw) (R:Type):zqt (zqt (Option R)→E210_3 R):=fun x1 x2 x3 x4 x5 kc k0=>
let v6:=decide (x4<x3);(match v6 with
|true=>(match bnd x4 x2.length with
|true=>let v7:=x2.getD x4.toNat (List.replicate 64 0);F258 R x5.1.1 v7 fun y8=>
let v9:=IntKind.i64.wrap (x4+1);kc x1 x2 x3 v9 ((y8,x5.1.2),x5.2)
|false=>none)
|false=>k0 x1 x5)
theorem q210_3 (F257:zax) (F258:zaw) (L3:Lw):LEQ (Yw L3) (e210 F257 F258 L3) Tryz.f210 (zh0 F258):=fun _ _ _ _=>by kernel_rfl
def Pl:Nat→Lw
 | 0=>fun _ _ _ _ _ _ _=>none
 | n+1=>fun R x1 x2 x3 x4 x5 k0=>zh0 F258 R x1 x2 x3 x4 x5 (fun x1 x2 x3 x4 x5=>Pl n R x1 x2 x3 x4 x5 k0) k0
def p210 (F257:zax) (L3:Lw):za5:=fun R a0 a1 k=>
F257 R a1 fun y1 y2=>
let v3:=(y1.length:Int);L3 R y2 y1 v3 (0:Int) a0 (fun x4 x5=>
k x4 x5)
theorem q210 (F257:zax) (F258:zaw) (L3:Lw):EQ (zvq (p210 F257 L3)) (e210 F257 F258 L3) Tryz.f210 [(.tmp 4,25,false)]:=fun _ _ _=>by kernel_rfl
def F210:za5:=p210 F257 (Pl FUEL)
theorem zt0:LKP (Yw (Pl FUEL)) 1 33 3 Tryz.f210:=ST.lok (q210_3 F257 F258 (Pl FUEL)) (Aa ok257 (Aa ok258 Ab)) [] trivial
theorem ok210:OKP (zvq F210):=ST.ok1 (q210 F257 F258 (Pl FUEL)) (Aa ok257 (Aa ok258 Ab)) Tryz.func210 [3] ⟨⟨_,rfl,zt0⟩,trivial⟩
abbrev za6:=(R:Type)→Tq34→LI→(Tq34→Option R)→Option R
def en207 (F:za6):Ent:=eM 207 [(true,Kq34),(false,(.sl (.int .u8)))] [] F
def p207 (F210:za5) (F255:zwe):za6:=fun R a0 a1 k=>
let v1:=(a1.length:Int);let v2:=IntKind.u64.wrap v1;let v3:=IntKind.u64.wrap (a0.1.2.2.1+v2);F255 R a0.1.2.1 fun y4=>
(match (decide (y4.length+a1.length≤140737488355328)) with
|true=>let v5:=y4++a1;F210 R ((a0.1.1,a0.1.2.1,v3,a0.1.2.2.2),a0.2) v5 fun y6 p7=>
k ((p7.1.1,y6,p7.1.2.2),p7.2)
|false=>none)
theorem q207 (F210:za5) (F255:zwe):EQ (en207 (p207 F210 F255)) (sE 1 30 [] [zvq F210,en255 F255] []) Tryz.f207 []:=fun _ _ _=>by kernel_rfl
def F207:za6:=p207 F210 F255
theorem ok207:OKP (en207 F207):=ST.ok0 (q207 F210 F255) (Aa ok210 (Aa ok255 Ab)) Tryz.func207
abbrev zog:=(R:Type)→Tq33→(List LI)→(Tq33→Int→Option R)→Option R
def en162 (F:zog):Ent:=eV 162 [Kq33,(.sl (.sl (.int .u8)))] [Kq33,(.int .i64)] F
abbrev zq5 (Z:Type):=(List LI)→Int→Int→Tq33→Tq34→Z
abbrev E162_5 (R:Type):=(Int→Tq33→Option R)→(Tq33→Tq34→Option R)→Option R
abbrev Lz:=(R:Type)→zq5 (E162_5 R)
def Y1 (L:Lz):LEnt:=lM 5 [.fix 4 (.ptr 1 [] Kq33),.fix 6 (.ptr 2 [] Kq34),.val 15 (.sl (.sl (.int .u8))),.val 16 (.int .i64),.val 17 (.int .i64),.var 1 Kq33 false,.var 2 Kq34 false] 3 [(.ret,[.fix 4 (.ptr 1 [] Kq33),.val 5 (.int .i64),.var 1 Kq33 false]),(.exit 0,[.fix 4 (.ptr 1 [] Kq33),.fix 6 (.ptr 2 [] Kq34),.var 1 Kq33 false,.var 2 Kq34 false])] L
def e162 (F206:za7) (F207:za6) (L5:Lz):=sE 0 31 [] [en206 F206,en207 F207] [Y1 L5]
def zcl (F207:za6) (R:Type):zq5 (zq5 (Option R)→E162_5 R):=fun x1 x2 x3 x4 x5 kc k0 k1=>
let v6:=decide (x3<x2);(match v6 with
|true=>(match bnd x3 x1.length with
|true=>let v7:=x1.getD x3.toNat [];F207 R x5 v7 fun p8=>
let v9:=decide (p8.1.2.2.1≥2305843009213693952);(match v9 with
|true=>k0 (11:Int) ((List.replicate 8 (0:Int)),([]:LI),(0:Int),())
|false=>let v10:=IntKind.i64.wrap (x3+1);kc x1 x2 v10 x4 p8)
|false=>none)
|false=>k1 x4 x5)
theorem q162_5 (F206:za7) (F207:za6) (L5:Lz):LEQ (Y1 L5) (e162 F206 F207 L5) Tryz.f162 (zcl F207):=fun _ _ _ _=>by kernel_rfl
def M0:Nat→Lz
 | 0=>fun _ _ _ _ _ _ _ _=>none
 | n+1=>fun R x1 x2 x3 x4 x5 k0 k1=>zcl F207 R x1 x2 x3 x4 x5 (fun x1 x2 x3 x4 x5=>M0 n R x1 x2 x3 x4 x5 k0 k1) k0 k1
def p162 (F206:za7) (L5:Lz):zog:=fun R a0 a1 k=>
F206 R a0 fun y1=>
(match (!y1) with
|true=>k ((List.replicate 8 (0:Int)),([]:LI),(0:Int),()) (1:Int)
|false=>let v2:=(a1.length:Int);L5 R a1 v2 (0:Int) ((List.replicate 8 (0:Int)),([]:LI),(0:Int),()) (a0,()) (fun x3 x4=>
k x4 x3) (fun x5 x6=>
k x6.1 (0:Int)))
theorem q162 (F206:za7) (F207:za6) (L5:Lz):EQ (en162 (p162 F206 L5)) (e162 F206 F207 L5) Tryz.f162 [(.cell 4 233,233,false),(.tmp 5,40,false)]:=fun _ _ _=>by kernel_rfl
def F162:zog:=p162 F206 (M0 FUEL)
theorem zt5:LKP (Y1 (M0 FUEL)) 0 31 5 Tryz.f162:=ST.lok (q162_5 F206 F207 (M0 FUEL)) (Aa ok206 (Aa ok207 Ab)) [] trivial
theorem ok162:OKP (en162 F162):=ST.ok1 (q162 F206 F207 (M0 FUEL)) (Aa ok206 (Aa ok207 Ab)) Tryz.func162 [5] ⟨⟨_,rfl,zt5⟩,trivial⟩
abbrev znr:=(R:Type)→Int→(Int→Option R)→Option R
def en256 (F:znr):Ent:=eV 256 [(.int .u64)] [(.int .u64)] F
def p256:znr:=fun R a0 k=>
let v1:=decide (a0≥2305843009213693952);(match v1 with
|true=>k (0:Int)
|false=>let v2:=IntKind.u64.wrap (a0+8);let v3:=IntKind.u64.wrap (v2+64);let v4:=IntKind.u64.wrap (Int.tdiv v3 (64:Int));k v4)
theorem q256:EQ (en256 p256) (sE 0 9 [] [] []) Tryz.f256 [(.tmp 2,32,false)]:=fun _ _ _=>by kernel_rfl
def F256:znr:=p256
theorem ok256:OKP (en256 F256):=ST.ok0 q256 Ab Tryz.func256
abbrev zn1:=(R:Type)→LI→Int→(LI→Bool→Option R)→Option R
def en209 (F:zn1):Ent:=eV 209 [(.sl (.int .u8)),(.int .u64)] [(.sl (.int .u8)),.bool] F
def p209 (F115:Ki) (F256:znr):zn1:=fun R a0 a1 k=>
let v1:=decide (a1≥2305843009213693952);(match v1 with
|true=>k ([]:LI) false
|false=>let v2:=(a0.length:Int);let v3:=IntKind.u64.wrap v2;let v4:=Int.tmod a1 (64:Int);let v5:=v3 !=v4;(match v5 with
|true=>k ([]:LI) false
|false=>F256 R a1 fun y6=>
let v7:=IntKind.u64.wrap (Int.tdiv a1 (64:Int));let v8:=IntKind.u64.wrap (y6 - v7);let v9:=IntKind.i64.wrap v8;let v10:=IntKind.i64.wrap (v9*64);(match (decide (0≤v10∧v10≤v10∧v10≤140737488355328)) with
|true=>let v11:=List.replicate v10.toNat (0:Int);let v12:=lay v11 0 (List.take (v11.length) a0);let v13:=(a0.length:Int);(match bnd v13 v12.length with
|true=>let v14:=v12.set v13.toNat (128:Int);let v15:=ishl .u64 a1 (3:Int);F115 R v15 fun y16=>
let v17:=IntKind.i64.wrap (v10 - 8);(match (decide (0≤v17∧v17≤(v14.length:Int)∧(v14.length:Int)≤(v14.length:Int)∧(v14.length:Int)≤(v14.length:Int))) with
|true=>let v18:=lay v14 v17.toNat (List.take (Int.toNat ((v14.length:Int) - v17)) (List.take 8 (List.drop 0 y16)));k v18 true
|false=>none)
|false=>none)
|false=>none)))
theorem q209 (F115:Ki) (F256:znr):EQ (en209 (p209 F115 F256)) (sE 0 45 [] [Ze F115,en256 F256] []) Tryz.f209 [(.tmp 4,25,false),(.tmp 5,4,false)]:=fun _ _ _=>by kernel_rfl
def F209:zn1:=p209 F115 F256
theorem ok209:OKP (en209 F209):=ST.ok0 (q209 F115 F256) (Aa zih (Aa ok256 Ab)) Tryz.func209
abbrev zn0:=(R:Type)→Tq34→(LI→Tq34→Option R)→Option R
def en211 (F:zn0):Ent:=eM 211 [(true,Kq34)] [(false,(.arr 32 (.int .u8)))] F
abbrev zqs (Z:Type):=LI→Int→Tq34→LI→Z
abbrev E211_2 (R:Type):=(Tq34→LI→Option R)→Option R
abbrev Lv:=(R:Type)→zqs (E211_2 R)
def Yv (L:Lv):LEnt:=lM 2 [.fix 2 (.ptr 1 [] (.arr 32 (.int .u8))),.val 10 (.arr 8 (.int .u32)),.val 11 (.int .i64),.var 0 Kq34 false,.var 1 (.arr 32 (.int .u8)) false] 2 [(.exit 0,[.fix 2 (.ptr 1 [] (.arr 32 (.int .u8))),.var 0 Kq34 false,.var 1 (.arr 32 (.int .u8)) false])] L
def e211 (F218:Nb) (L2:Lv):=sE 1 24 [] [zkk F218] [Yv L2]
def zhz (F218:Nb) (R:Type):zqs (zqs (Option R)→E211_2 R):=fun x1 x2 x3 x4 kc k0=>
let v5:=decide (x2<8);(match v5 with
|true=>(match (bnd x2 (8:Int)) with
|true=>let v6:=x1.getD x2.toNat 0;F218 R v6 fun y7=>
let v8:=IntKind.i64.wrap ((4:Int)*x2);(match (decide (0≤v8∧v8≤(32:Int)∧(32:Int)≤(32:Int))) with
|true=>let v9:=lay x4 v8.toNat (List.take (Int.toNat ((32:Int) - v8)) (List.take 4 (List.drop 0 y7)));let v10:=IntKind.i64.wrap (x2+1);kc x1 v10 x3 v9
|false=>none)
|false=>none)
|false=>k0 x3 x4)
theorem q211_2 (F218:Nb) (L2:Lv):LEQ (Yv L2) (e211 F218 L2) Tryz.f211 (zhz F218):=fun _ _ _ _=>by kernel_rfl
def Pk:Nat→Lv
 | 0=>fun _ _ _ _ _ _=>none
 | n+1=>fun R x1 x2 x3 x4 k0=>zhz F218 R x1 x2 x3 x4 (fun x1 x2 x3 x4=>Pk n R x1 x2 x3 x4 k0) k0
def p211 (L2:Lv):zn0:=fun R a0 k=>
L2 R a0.1.1 (0:Int) a0 (List.replicate 32 (0:Int)) (fun x1 x2=>
k x2 x1)
theorem q211 (F218:Nb) (L2:Lv):EQ (en211 (p211 L2)) (e211 F218 L2) Tryz.f211 [(.cell 2 24,24,false)]:=fun _ _ _=>by kernel_rfl
def F211:zn0:=p211 (Pk FUEL)
theorem ztz:LKP (Yv (Pk FUEL)) 1 24 2 Tryz.f211:=ST.lok (q211_2 F218 (Pk FUEL)) (Aa zsz Ab) [] trivial
theorem ok211:OKP (en211 F211):=ST.ok1 (q211 F218 (Pk FUEL)) (Aa zsz Ab) Tryz.func211 [2] ⟨⟨_,rfl,ztz⟩,trivial⟩
abbrev zoe:=(R:Type)→Tq33→(LI→Int→Option R)→Option R
def en164 (F:zoe):Ent:=eV 164 [Kq33] [(.arr 32 (.int .u8)),(.int .i64)] F
def p164 (F209:zn1) (F210:za5) (F211:zn0):zoe:=fun R a0 k=>
F209 R a0.2.1 a0.2.2.1 fun y1 y2=>
(match (!y2) with
|true=>let v3:=List.replicate 32 (0:Int);k v3 (1:Int)
|false=>F210 R (a0,()) y1 fun y4 p5=>
F211 R p5 fun y6 p7=>
k y6 (0:Int))
theorem q164 (F209:zn1) (F210:za5) (F211:zn0):EQ (en164 (p164 F209 F210 F211)) (sE 0 23 [] [en209 F209,zvq F210,en211 F211] []) Tryz.f164 [(.cell 2 24,24,false),(.tmp 3,40,false)]:=fun _ _ _=>by kernel_rfl
def F164:zoe:=p164 F209 F210 F211
theorem ok164:OKP (en164 F164):=ST.ok0 (q164 F209 F210 F211) (Aa ok209 (Aa ok210 (Aa ok211 Ab))) Tryz.func164
abbrev S9:=(R:Type)→(List LI)→(LI→Option R)→Option R
def zkn (F:S9):Ent:=eV 116 [(.sl (.sl (.int .u8)))] [(.arr 32 (.int .u8))] F
def p116 (F162:zog) (F163:zof) (F164:zoe):S9:=fun R a0 k=>
F163 R  fun y1=>
F162 R y1 a0 fun y2 y3=>
F164 R y2 fun y4 y5=>
k y4
theorem q116 (F162:zog) (F163:zof) (F164:zoe):EQ (zkn (p116 F162 F163 F164)) (sE 0 19 [] [en162 F162,en163 F163,en164 F164] []) Tryz.f116 [(.cell 2 24,24,false)]:=fun _ _ _=>by kernel_rfl
def F116:S9:=p116 F162 F163 F164
theorem ok116:OKP (zkn F116):=ST.ok0 (q116 F162 F163 F164) (Aa ok162 (Aa ok163 (Aa ok164 Ab))) Tryz.func116
abbrev zaz:=(R:Type)→LI→(LI→Option R)→Option R
def zvi (F:zaz):Ent:=eV 236 [(.arr 32 (.int .u8))] [(.arr 32 (.int .u8))] F
def p236 (F116:S9):zaz:=fun R a0 k=>
let v1:=([(List.take 32 (List.drop 0 a0))]:(List LI));F116 R v1 fun y2=>
k y2
theorem q236 (F116:S9):EQ (zvi (p236 F116)) (sE 0 6 [] [zkn F116] []) Tryz.f236 [(.cell 2 24,24,false)]:=fun _ _ _=>by kernel_rfl
def F236:zaz:=p236 F116
theorem ok236:OKP (zvi F236):=ST.ok0 (q236 F116) (Aa ok116 Ab) Tryz.func236
abbrev zat:=(R:Type)→Tq3→(Bool→Option R)→Option R
def en265 (F:zat):Ent:=eV 265 [Kq3] [.bool] F
def p265 (F236:zaz):zat:=fun R a0 k=>
(match a0.2.2.1 with
|true=>let v1:=decide (a0.1≥0);(match v1 with
|true=>F236 R a0.2.2.2.1 fun y2=>
let v3:=Kd.eqv (.arr 32 (.int .u8)) y2 a0.2.1;k v3
|false=>k false)
|false=>let v4:=decide (a0.1≥0);(match v4 with
|true=>let v5:=List.replicate 32 (0:Int);let v6:=Kd.eqv (.arr 32 (.int .u8)) a0.2.2.2.1 v5;k v6
|false=>k false))
theorem q265 (F236:zaz):EQ (en265 (p265 F236)) (sE 0 25 [] [zvi F236] []) Tryz.f265 [(.tmp 2,4,false)]:=fun _ _ _=>by kernel_rfl
def F265:zat:=p265 F236
theorem ok265:OKP (en265 F265):=ST.ok0 (q265 F236) (Aa ok236 Ab) Tryz.func265
abbrev P2:=(R:Type)→(List Tq3)→(Bool→Option R)→Option R
def zkg (F:P2):Ent:=eV 231 [(.sl Kq3)] [.bool] F
abbrev zqo (Z:Type):=(List Tq3)→(List Tq3)→Int→Int→Z
abbrev E231_2 (R:Type):=(Bool→Option R)→(Option R)→Option R
abbrev Lr:=(R:Type)→zqo (E231_2 R)
def Ys (L:Lr):LEnt:=lM 2 [.val 0 (.sl Kq3),.val 5 (.sl Kq3),.val 6 (.int .i64),.val 7 (.int .i64)] 0 [(.ret,[.val 2 .bool]),(.exit 0,[])] L
def e231 (F265:zat) (L2:Lr):=sE 0 31 [] [en265 F265] [Ys L2]
def zhw (F265:zat) (R:Type):zqo (zqo (Option R)→E231_2 R):=fun x1 x2 x3 x4 kc k0 k1=>
let v5:=decide (x4<x3);(match v5 with
|true=>(match bnd x4 x2.length with
|true=>let v6:=x2.getD x4.toNat (0,(List.replicate 32 0),false,(List.replicate 32 0),());F265 R v6 fun y7=>
(match (!y7) with
|true=>k0 false
|false=>let v8:=decide (x4>0);(match v8 with
|true=>let v9:=IntKind.i64.wrap (x4 - 1);(match bnd v9 x1.length with
|true=>let v10:=(x1.getD v9.toNat (0,(List.replicate 32 0),false,(List.replicate 32 0),())).1;let v11:=decide (v10≥v6.1);(match v11 with
|true=>k0 false
|false=>let v12:=IntKind.i64.wrap (x4+1);kc x1 x2 x3 v12)
|false=>none)
|false=>let v13:=IntKind.i64.wrap (x4+1);kc x1 x2 x3 v13))
|false=>none)
|false=>k1)
theorem q231_2 (F265:zat) (L2:Lr):LEQ (Ys L2) (e231 F265 L2) Tryz.f231 (zhw F265):=fun _ _ _ _=>by kernel_rfl
def Pi:Nat→Lr
 | 0=>fun _ _ _ _ _ _ _=>none
 | n+1=>fun R x1 x2 x3 x4 k0 k1=>zhw F265 R x1 x2 x3 x4 (fun x1 x2 x3 x4=>Pi n R x1 x2 x3 x4 k0 k1) k0 k1
def p231 (L2:Lr):P2:=fun R a0 k=>
let v1:=(a0.length:Int);L2 R a0 a0 v1 (0:Int) (fun x2=>
k x2) (k true)
theorem q231 (F265:zat) (L2:Lr):EQ (zkg (p231 L2)) (e231 F265 L2) Tryz.f231 [(.tmp 2,4,false)]:=fun _ _ _=>by kernel_rfl
def F231:P2:=p231 (Pi FUEL)
theorem ztv:LKP (Ys (Pi FUEL)) 0 31 2 Tryz.f231:=ST.lok (q231_2 F265 (Pi FUEL)) (Aa ok265 Ab) [] trivial
theorem ok231:OKP (zkg F231):=ST.ok1 (q231 F265 (Pi FUEL)) (Aa ok265 Ab) Tryz.func231 [2] ⟨⟨_,rfl,ztv⟩,trivial⟩
abbrev FT79:=(R:Type)→(List LI)→(LI→Option R)→Option R
def en79 (F:FT79):Ent:=eV 79 [(.sl (.arr 32 (.int .u8)))] [(.arr 32 (.int .u8))] F
abbrev D79_2 (Z:Type):=(List LI)→Int→Int→LI→Z
abbrev E79_2 (R:Type):=(LI→Option R)→Option R
abbrev O4:=(R:Type)→D79_2 (E79_2 R)
def zi1 (L:O4):LEnt:=lM 2 [.fix 2 (.ptr 0 [] (.arr 32 (.int .u8))),.val 7 (.sl (.arr 32 (.int .u8))),.val 8 (.int .i64),.val 9 (.int .i64),.var 0 (.arr 32 (.int .u8)) false] 1 [(.exit 0,[.fix 2 (.ptr 0 [] (.arr 32 (.int .u8))),.var 0 (.arr 32 (.int .u8)) false])] L
abbrev D79_5 (Z:Type):=(List LI)→Int→Int→LI→Int→LI→Z
abbrev E79_5 (R:Type):=((List LI)→Int→Int→LI→Option R)→Option R
abbrev O3:=(R:Type)→D79_5 (E79_5 R)
def zi0 (L:O3):LEnt:=lM 5 [.fix 2 (.ptr 0 [] (.arr 32 (.int .u8))),.val 7 (.sl (.arr 32 (.int .u8))),.val 8 (.int .i64),.val 9 (.int .i64),.val 13 (.arr 32 (.int .u8)),.val 14 (.int .i64),.var 0 (.arr 32 (.int .u8)) false] 1 [(.exit 2,[.fix 2 (.ptr 0 [] (.arr 32 (.int .u8))),.val 7 (.sl (.arr 32 (.int .u8))),.val 8 (.int .i64),.val 9 (.int .i64),.var 0 (.arr 32 (.int .u8)) false])] L
def e79 (L2:O4) (L5:O3):=sE 0 27 [] [] [zi1 L2,zi0 L5]
def zsn (R:Type):D79_5 (D79_5 (Option R)→E79_5 R):=fun x1 x2 x3 x4 x5 x6 kc k0=>
let v7:=decide (x5<32);(match v7 with
|true=>(match (bnd x5 (32:Int)) with
|true=>let v8:=x4.getD x5.toNat 0;(match (bnd x5 (32:Int)) with
|true=>let v9:=x6.getD x5.toNat 0;let v10:=ixor .u8 v9 v8;(match (bnd x5 (32:Int)) with
|true=>let v11:=x6.set x5.toNat v10;let v12:=IntKind.i64.wrap (x5+1);kc x1 x2 x3 x4 v12 v11
|false=>none)
|false=>none)
|false=>none)
|false=>k0 x1 x2 x3 x6)
theorem q79_5 (L2:O4) (L5:O3):LEQ (zi0 L5) (e79 L2 L5) Tryz.f79 zsn:=fun _ _ _ _=>by kernel_rfl
def Sv:Nat→O3
 | 0=>fun _ _ _ _ _ _ _ _=>none
 | n+1=>fun R x1 x2 x3 x4 x5 x6 k0=>zsn R x1 x2 x3 x4 x5 x6 (fun x1 x2 x3 x4 x5 x6=>Sv n R x1 x2 x3 x4 x5 x6 k0) k0
def p79_2 (L5:O3) (R:Type):D79_2 (D79_2 (Option R)→E79_2 R):=fun x1 x2 x3 x4 kc k0=>
let v5:=decide (x3<x2);(match v5 with
|true=>(match bnd x3 x1.length with
|true=>let v6:=x1.getD x3.toNat (List.replicate 32 0);L5 R x1 x2 x3 v6 (0:Int) x4 (fun x7 x8 x9 x10=>
let v11:=IntKind.i64.wrap (x9+1);kc x7 x8 v11 x10)
|false=>none)
|false=>k0 x4)
theorem q79_2 (L2:O4) (L5:O3):LEQ (zi1 L2) (e79 L2 L5) Tryz.f79 (p79_2 L5):=fun _ _ _ _=>by kernel_rfl
def V0:Nat→O4
 | 0=>fun _ _ _ _ _ _=>none
 | n+1=>fun R x1 x2 x3 x4 k0=>p79_2 (Sv FUEL) R x1 x2 x3 x4 (fun x1 x2 x3 x4=>V0 n R x1 x2 x3 x4 k0) k0
def p79 (L2:O4):FT79:=fun R a0 k=>
let v1:=(a0.length:Int);L2 R a0 v1 (0:Int) (List.replicate 32 (0:Int)) (fun x2=>
k x2)
theorem q79 (L2:O4) (L5:O3):EQ (en79 (p79 L2)) (e79 L2 L5) Tryz.f79 [(.cell 2 24,24,false)]:=fun _ _ _=>by kernel_rfl
def F79:FT79:=p79 (V0 FUEL)
theorem lok79_5:LKP (zi0 (Sv FUEL)) 0 27 5 Tryz.f79:=ST.lok (q79_5 (V0 FUEL) (Sv FUEL)) Ab [] trivial
theorem lok79_2:LKP (zi1 (V0 FUEL)) 0 27 2 Tryz.f79:=ST.lok (q79_2 (V0 FUEL) (Sv FUEL)) Ab [5] ⟨⟨_,rfl,lok79_5⟩,trivial⟩
theorem ok79:OKP (en79 F79):=ST.ok1 (q79 (V0 FUEL) (Sv FUEL)) Ab Tryz.func79 [2] ⟨⟨_,rfl,lok79_2⟩,trivial⟩
abbrev za0:=(R:Type)→(List Tq3)→(LI→Option R)→Option R
def zvj (F:za0):Ent:=eV 235 [(.sl Kq3)] [(.arr 32 (.int .u8))] F
abbrev zqn (Z:Type):=(List Tq3)→Int→Int→LI→Z
abbrev E235_2 (R:Type):=(LI→Option R)→Option R
abbrev Lq:=(R:Type)→zqn (E235_2 R)
def Yr (L:Lq):LEnt:=lM 2 [.fix 2 (.ptr 0 [] (.arr 32 (.int .u8))),.val 5 (.sl Kq3),.val 6 (.int .i64),.val 7 (.int .i64),.var 0 (.arr 32 (.int .u8)) false] 1 [(.exit 0,[.fix 2 (.ptr 0 [] (.arr 32 (.int .u8))),.var 0 (.arr 32 (.int .u8)) false])] L
def e235 (F79:FT79) (L2:Lq):=sE 0 20 [] [en79 F79] [Yr L2]
def zhv (F79:FT79) (R:Type):zqn (zqn (Option R)→E235_2 R):=fun x1 x2 x3 x4 kc k0=>
let v5:=decide (x3<x2);(match v5 with
|true=>(match bnd x3 x1.length with
|true=>let v6:=x1.getD x3.toNat (0,(List.replicate 32 0),false,(List.replicate 32 0),());(match v6.2.2.1 with
|true=>let v7:=([x4,v6.2.2.2.1]:(List LI));F79 R v7 fun y8=>
let v9:=IntKind.i64.wrap (x3+1);kc x1 x2 v9 y8
|false=>let v10:=IntKind.i64.wrap (x3+1);kc x1 x2 v10 x4)
|false=>none)
|false=>k0 x4)
theorem q235_2 (F79:FT79) (L2:Lq):LEQ (Yr L2) (e235 F79 L2) Tryz.f235 (zhv F79):=fun _ _ _ _=>by kernel_rfl
def Ph:Nat→Lq
 | 0=>fun _ _ _ _ _ _=>none
 | n+1=>fun R x1 x2 x3 x4 k0=>zhv F79 R x1 x2 x3 x4 (fun x1 x2 x3 x4=>Ph n R x1 x2 x3 x4 k0) k0
def p235 (L2:Lq):za0:=fun R a0 k=>
let v1:=(a0.length:Int);L2 R a0 v1 (0:Int) (List.replicate 32 (0:Int)) (fun x2=>
k x2)
theorem q235 (F79:FT79) (L2:Lq):EQ (zvj (p235 L2)) (e235 F79 L2) Tryz.f235 [(.cell 2 24,24,false)]:=fun _ _ _=>by kernel_rfl
def F235:za0:=p235 (Ph FUEL)
theorem ztu:LKP (Yr (Ph FUEL)) 0 20 2 Tryz.f235:=ST.lok (q235_2 F79 (Ph FUEL)) (Aa ok79 Ab) [] trivial
theorem ok235:OKP (zvj F235):=ST.ok1 (q235 F79 (Ph FUEL)) (Aa ok79 Ab) Tryz.func235 [2] ⟨⟨_,rfl,ztu⟩,trivial⟩
abbrev za2:=(R:Type)→Tq24→(Bool→Option R)→Option R
def zvl (F:za2):Ent:=eV 230 [Kq24] [.bool] F
def p230 (F231:P2) (F235:za0):za2:=fun R a0 k=>
F231 R a0.2.2.2.1 fun y1=>
(match y1 with
|true=>F235 R a0.2.2.2.1 fun y2=>
let v3:=Kd.eqv (.arr 32 (.int .u8)) y2 a0.2.2.1;k v3
|false=>k false)
theorem q230 (F231:P2) (F235:za0):EQ (zvl (p230 F231 F235)) (sE 0 14 [] [zkg F231,zvj F235] []) Tryz.f230 [(.tmp 2,4,false)]:=fun _ _ _=>by kernel_rfl
def F230:za2:=p230 F231 F235
theorem ok230:OKP (zvl F230):=ST.ok0 (q230 F231 F235) (Aa ok231 (Aa ok235 Ab)) Tryz.func230
abbrev za9:=(R:Type)→Tq24→Int→Int→(Int→Option R)→Option R
def zvt (F:za9):Ent:=eV 182 [Kq24,(.int .i64),(.int .i64)] [(.int .i64)] F
def p182 (F230:za2):za9:=fun R a0 a1 a2 k=>
F230 R a0 fun y1=>
(match (!y1) with
|true=>k (1:Int)
|false=>let v2:=a1 !=a2;(match v2 with
|true=>k (7:Int)
|false=>k (0:Int)))
theorem q182 (F230:za2):EQ (zvt (p182 F230)) (sE 0 15 [] [zvl F230] []) Tryz.f182 [(.tmp 6,40,false)]:=fun _ _ _=>by kernel_rfl
def F182:za9:=p182 F230
theorem ok182:OKP (zvt F182):=ST.ok0 (q182 F230) (Aa ok230 Ab) Tryz.func182
abbrev zni:=(R:Type)→Int→(Bool→Option R)→Option R
def en287 (F:zni):Ent:=eV 287 [(.int .i64)] [.bool] F
def p287:zni:=fun R a0 k=>
let v1:=a0 !=a0;k v1
theorem q287:EQ (en287 p287) (sE 0 6 [] [] []) Tryz.f287 [(.tmp 2,4,false)]:=fun _ _ _=>by kernel_rfl
def F287:zni:=p287
theorem ok287:OKP (en287 F287):=ST.ok0 q287 Ab Tryz.func287
abbrev znq:=(R:Type)→Int→Int→(Int→Option R)→Option R
def en268 (F:znq):Ent:=eV 268 [(.int .i64),(.int .i64)] [(.int .i64)] F
def p268 (F287:zni):znq:=fun R a0 a1 k=>
F287 R a0 fun y1=>
F287 R a1 fun y2=>
(match y1 with
|true=>(match y2 with
|true=>k (0:Int)
|false=>k (-1:Int))
|false=>(match y2 with
|true=>k (1:Int)
|false=>let v3:=decide (a0<a1);(match v3 with
|true=>k (-1:Int)
|false=>let v4:=decide (a0>a1);(match v4 with
|true=>k (1:Int)
|false=>k (0:Int)))))
theorem q268 (F287:zni):EQ (en268 (p268 F287)) (sE 0 20 [] [en287 F287] []) Tryz.f268 [(.tmp 4,3,false)]:=fun _ _ _=>by kernel_rfl
def F268:znq:=p268 F287
theorem ok268:OKP (en268 F268):=ST.ok0 (q268 F287) (Aa ok287 Ab) Tryz.func268
abbrev Wk:=(R:Type)→Tq3→Int→(Int→Option R)→Option R
def en267 (F:Wk):Ent:=eV 267 [Kq3,(.int .i64)] [(.int .i64)] F
def p267 (F268:znq):Wk:=fun R a0 a1 k=>
F268 R a0.1 a1 fun y1=>
k y1
theorem q267 (F268:znq):EQ (en267 (p267 F268)) (sE 0 9 [] [en268 F268] []) Tryz.f267 [(.tmp 4,3,false)]:=fun _ _ _=>by kernel_rfl
def F267:Wk:=p267 F268
theorem ok267:OKP (en267 F267):=ST.ok0 (q267 F268) (Aa ok268 Ab) Tryz.func267
abbrev Gu:Type 1:=(R:Type)→(List Tq3)→Int→(Int→Bool→Option R)→Option R
def Fj (F:Gu):EntF:=⟨266,267,[(false,(.sl Kq3)),(false,(.int .i64))],[(false,(.int .i64)),(false,.bool)],fun R x k=>F R x.1 x.2.1 (fun y1 y2=>k (y1,y2,()) ())⟩
def T8:List (ResultVar×TypeId×Bool):=[(.tmp 6,3,false),(.tmp 7,4,false)]
abbrev Ey:Type 1:=(R:Type)→(List Tq3)→Int→Int→Int→Int→((List Tq3)→Int→Int→Int→Option R)→Option R
def Bk (L:Ey):LEnt:=⟨3,[.val 0 (.sl Kq3),.val 1 (.int .i64),.fix 2 (.fn 267),.val 8 (.int .i64),.val 9 (.int .i64),.val 10 (.int .i64)],0,[(.exit 0,[.val 0 (.sl Kq3),.val 1 (.int .i64),.fix 2 (.fn 267),.val 8 (.int .i64),.val 9 (.int .i64)])],fun R x ke=>L R x.1 x.2.1 x.2.2.1 x.2.2.2.1 x.2.2.2.2.1 (fun y1 y2 y3 y4=>ke.1 (y1,y2,y3,y4,()))⟩
def Oi (F267:Wk) (L3:Ey) (R:Type):Env R:=⟨TT,EQT,0,49,Bq [],Bd [en267 F267] R,Bi [Bk L3] R,[],Bf [],[],fun _ _ _ _=>none⟩
def Jp (F267:Wk):(R:Type)→(List Tq3)→Int→Int→Int→Int→((List Tq3)→Int→Int→Int→Int→Option R)→((List Tq3)→Int→Int→Int→Option R)→Option R:=fun R x1 x2 x3 x4 x5 kc k0=>
let v6:=decide (x4<x5);(match v6 with
|true=>let v7:=IntKind.i64.wrap (x4+x5);let v8:=IntKind.u64.wrap v7;let v9:=ishr .u64 v8 (1:Int);let v10:=IntKind.i64.wrap v9;(match bnd v10 x1.length with
|true=>let v11:=x1.getD v10.toNat (0,(List.replicate 32 0),false,(List.replicate 32 0),());F267 R v11 x2 fun y12=>
let v13:=decide (y12<0);(match v13 with
|true=>let v14:=IntKind.i64.wrap (v10+1);kc x1 x2 x3 v14 x5
|false=>kc x1 x2 x3 x4 v10)
|false=>none)
|false=>k0 x1 x2 x3 x4)
theorem zg3 (F267:Wk) (L3:Ey) (R:Type) (x:HT (Bk L3).H) (kc:HT (Bk L3).H→Option R) (ke:KT R (Bk L3).exs):
 exec (Oi F267 L3 R) (Cg 3 (Ai Tryz.f266)) (stOf (Bk L3).H x 0) (Mh (Bk L3).H (Bk L3).exs kc ke)=
  Jp F267 R x.1 x.2.1 x.2.2.1 x.2.2.2.1 x.2.2.2.2.1 (fun x1 x2 x3 x4 x5=>kc (x1,x2,x3,x4,x5,())) (fun y1 y2 y3 y4=>ke.1 (y1,y2,y3,y4,())):=by kernel_rfl
def A8:Nat→Ey
 | 0=>fun _ _ _ _ _ _ _=>none
 | n+1=>fun R x1 x2 x3 x4 x5 k0=>Jp F267 R x1 x2 x3 x4 x5 (fun x1 x2 x3 x4 x5=>A8 n R x1 x2 x3 x4 x5 k0) k0
def Xo (F267:Wk) (L3:Ey):Gu:=fun R a0 a1 k=>
let v1:=(a0.length:Int);L3 R a0 a1 v1 (0:Int) v1 (fun x2 x3 x4 x5=>
let v6:=decide (x5<x4);(match v6 with
|true=>(match bnd x5 x2.length with
|true=>let v7:=x2.getD x5.toNat (0,(List.replicate 32 0),false,(List.replicate 32 0),());F267 R v7 x3 fun y8=>
let v9:=y8==0;k x5 v9
|false=>none)
|false=>k x5 false))
theorem q267267 (F267:Wk) (L3:Ey) (F:Gu) (R:Type) (x:AT (Fj F).ins) (k:RT (Fj F).outs→PT (Fj F).ins→Option R):
 xfun (Oi F267 L3 R) (Ai Tryz.f266) T8 (avs (Fj F).ins x++[AV.fn 267]) (finK (Fj F).outs (Fj F).ins k)=Xo F267 L3 R x.1 x.2.1 (fun y1 y2=>k (y1,y2,()) ()):=by kernel_rfl
def Du:Gu:=Xo F267 (A8 FUEL)
theorem U4 (R:Type):Az Tryz.prog (Oi F267 (A8 FUEL) R):=⟨tabOK,eqOK,Aq (Aa ok267 Ab),Bv,Ak,noYl⟩
def Hr:(R:Type)→HT (Bk (A8 FUEL)).H→(HT (Bk (A8 FUEL)).H→Option R)→KT R (Bk (A8 FUEL)).exs→Option R:=fun R x kc ke=>Jp F267 R x.1 x.2.1 x.2.2.1 x.2.2.2.1 x.2.2.2.2.1 (fun x1 x2 x3 x4 x5=>kc (x1,x2,x3,x4,x5,())) (fun y1 y2 y3 y4=>ke.1 (y1,y2,y3,y4,()))
theorem zer:∀(n:Nat) (R:Type) (x:HT (Bk (A8 FUEL)).H) (ke:KT R (Bk (A8 FUEL)).exs),iter Hr n R x ke=A8 n R x.1 x.2.1 x.2.2.1 x.2.2.2.1 x.2.2.2.2.1 (fun y1 y2 y3 y4=>ke.1 (y1,y2,y3,y4,())):=by
 intro n
 induction n with
 | zero=>intro R x ke; rfl
 | succ n ih=>
  intro R x ke;show Hr R x (fun x'=>iter Hr n R x' ke) ke=_
  rw [show (fun x'=>iter Hr n R x' ke)=fun x=>A8 n R x.1 x.2.1 x.2.2.1 x.2.2.2.1 x.2.2.2.2.1 (fun y1 y2 y3 y4=>ke.1 (y1,y2,y3,y4,())) from funext fun x'=>ih R x' ke];rfl
theorem X3:(Bk (A8 FUEL)).OK Tryz.prog 0 49 (Cg 3 (Ai Tryz.f266)):=⟨⟨fun _ h=>(by cases h),by kernel_rfl⟩,fun R x ke r h=>
 Ev (fun R=>Oi F267 (A8 FUEL) R) 0 49 (fun _=>rfl) (fun _=>rfl) (fun R=>U4 R) mixed (by
  intro R;rw [show Ap (Cg 3 (Ai Tryz.f266))=[] from by kernel_rfl];exact Br) (fun _ h=>(by cases h)) (N7 (by kernel_rfl)) (T:=Hr) (fun R x kc ke=>zg3 F267 (A8 FUEL) R x kc ke) FUEL R x ke r ((zer FUEL R x ke).trans h)⟩
theorem zsu:(Fj Du).OK Tryz.prog:=
 Iz (Ef:=fun R=>Oi F267 (A8 FUEL) R) (fun R=>U4 R) mixed Tryz.func266 (body:=Ai Tryz.f266) (by kernel_rfl) (by kernel_rfl) (np:=0) (nt:=49) (fun _=>rfl) (fun _=>rfl) (by kernel_rfl) (res:=T8) (by kernel_rfl) (fun _=>rfl) (fun _=>Nat.le_of_ble_eq_true rfl) (by
  intro R;rw [show Ap (Ai Tryz.f266)=[Cg 3 (Ai Tryz.f266)] from by kernel_rfl];exact (Af (Ia (e:=Bk (A8 FUEL)) rfl rfl X3) Br)) (fun R x k=>q267267 F267 (A8 FUEL) Du R x k)
abbrev Wn:=(R:Type)→(List Tq3)→Int→(Int→Bool→Option R)→Option R
def zvk (F:Wn):Ent:=eV 232 [(.sl Kq3),(.int .i64)] [(.int .i64),.bool] F
def e232 (Du:Gu) (R:Type):Env R:=⟨TT,EQT,0,11,Bq [],Ei [Fj Du] [] R,Bi [] R,[],Bf [],[],fun _ _ _ _=>none⟩
def p232 (Du:Gu):Wn:=fun R a0 a1 k=>
Du R a0 a1 fun y1 y2=>
k y1 y2
theorem q232 (Du:Gu):EQ (zvk (p232 Du)) (e232 Du) Tryz.f232 [(.tmp 4,3,false),(.tmp 5,4,false)]:=fun _ _ _=>by kernel_rfl
def F232:Wn:=p232 Du
theorem env232 (R:Type):Az Tryz.prog (e232 Du R):=⟨tabOK,eqOK,Cn (Fc zsu Ep) Ab,Bv,Ak,noYl⟩
theorem ok232:OKP (zvk F232):=ST.ok3 (q232 Du) env232 Tryz.func232 (fun _=>rfl) (fun _=>rfl) (fun _=>rfl) [] trivial
abbrev za1:Type 1:=(R:Type)→(List Tq3)→((List Tq3)→Option R)→Option R
def en234 (F:za1):Ent:=⟨234,[(false,(.sl Kq3))],[(true,Kq3)],fun R x k=>F R x.1 (fun y1=>k (y1,()) ())⟩
def e234:Env (RT [(true,Kq3)]):=⟨TT,EQT,0,8,Bq [(2,0),(3,0)],fun _ _ _=>none,fun _ _ _=>none,[],Bf [],[],fun _ _ _ _=>none⟩
def F234:za1:=fun R a0 k=>match decide (List.length ([]:(List Tq3))+a0.length≤1759218604441) with | true=>k a0 | false=>none
theorem ok234:(en234 F234).OK Tryz.prog:=
 Ic (e:=Kq3) e234 ⟨tabOK,eqOK,(fun f b K r h=>by cases h),Bv,Ak,noYl⟩ mixed Tryz.func234 (body:=Ai Tryz.f234) (by kernel_rfl) (by kernel_rfl) (by kernel_rfl) (res:=[(.tmp 2,33,true)]) (by kernel_rfl) rfl (by decide) (by kernel_rfl) (lim:=1759218604441) (by kernel_rfl) (fun l=>by kernel_rfl)
def zw2:Go.Shelf.Ren:=⟨fun n=>match n with | 22=>233 | 29=>269 | _=>270,fun n=>match n with | 3=>3 | 4=>4 | 9=>159 | 24=>33 | _=>0,fun n=>n⟩
theorem insL233:InsL Tryz.prog zw2 Tryz.f233:=⟨mixed,Tryz.func233,⟨Tryz.f233.name,Tryz.f233.targs,Tryz.f233.params,Tryz.f233.resultTypes,Tryz.f233.file,Tryz.f233.tmpNames,by kernel_rfl⟩,Tryz.underlying3,Tryz.underlying4,Tryz.underlying33⟩
theorem ok233:Ss Tryz.prog 233 Kq3 1759218604441:=
 ins_ok (ρ:=zw2) tabOK insL233 (by kernel_rfl) (by decide) (by kernel_rfl) (by kernel_rfl) (dd:=(G3 TT 159).get (by kernel_rfl)) (by kernel_rfl) (fo:=Tryz.f269) Tryz.func269 (by kernel_rfl) (by kernel_rfl) (by kernel_rfl) (by kernel_rfl) (by kernel_rfl) (by decide)
abbrev zoa:=(R:Type)→(List Tq3)→Int→LI→((List Tq3)→Int→Option R)→Option R
def en183 (F:zoa):Ent:=eV 183 [(.sl Kq3),(.int .i64),(.arr 32 (.int .u8))] [(.sl Kq3),(.int .i64)] F
def e183 (F231:P2) (F232:Wn) (F234:za1) (R:Type):Env R:=⟨TT,EQT,0,32,Bq [(6,7)],Bd [zkg F231,zvk F232,en234 F234] R,Bi [] R,[(233,Kq3,1759218604441)],Bf [],[],fun _ _ _ _=>none⟩
def p183 (F231:P2) (F232:Wn) (F234:za1):zoa:=fun R a0 a1 a2 k=>
let v1:=decide (a1<0);(match v1 with
|true=>k ([]:(List Tq3)) (1:Int)
|false=>F231 R a0 fun y2=>
(match (!y2) with
|true=>k ([]:(List Tq3)) (1:Int)
|false=>F232 R a0 a1 fun y3 y4=>
(match y4 with
|true=>k ([]:(List Tq3)) (6:Int)
|false=>F234 R a0 fun y5=>
let v6:=([(a1,a2,false,(List.replicate 32 (0:Int)),())]:(List Tq3));(match (decide (0≤y3∧y3≤(y5.length:Int)∧y5.length+v6.length≤1759218604441)) with
|true=>let v7:=List.take y3.toNat y5++v6++List.drop y3.toNat y5;k v7 (0:Int)
|false=>none))))
theorem q183 (F231:P2) (F232:Wn) (F234:za1):EQ (en183 (p183 F231 F232 F234)) (e183 F231 F232 F234) Tryz.f183 [(.tmp 6,33,false),(.tmp 7,40,false)]:=fun _ _ _=>by kernel_rfl
def F183:zoa:=p183 F231 F232 F234
theorem env183 (R:Type):Az Tryz.prog (e183 F231 F232 F234 R):=⟨tabOK,eqOK,Aq (Aa ok231 (Aa ok232 (Aa ok234 Ab))),zw7 ok233,Ak,noYl⟩
theorem ok183:OKP (en183 F183):=ST.ok3 (q183 F231 F232 F234) env183 Tryz.func183 (fun _=>rfl) (fun _=>rfl) (fun _=>rfl) [] trivial
abbrev za8:=(R:Type)→Tq24→(List Tq3)→Int→(Tq24→Int→Option R)→Option R
def zvs (F:za8):Ent:=eV 184 [Kq24,(.sl Kq3),(.int .i64)] [Kq24,(.int .i64)] F
def p184 (F235:za0):za8:=fun R a0 a1 a2 k=>
let v1:=a2 !=0;(match v1 with
|true=>k ((0:Int),(List.replicate 32 (0:Int)),(List.replicate 32 (0:Int)),([]:(List Tq3)),()) a2
|false=>F235 R a1 fun y2=>
k (a0.1,a0.2.1,y2,a1,a0.2.2.2.2) (0:Int))
theorem q184 (F235:za0):EQ (zvs (p184 F235)) (sE 0 18 [] [zvj F235] []) Tryz.f184 [(.cell 6 35,35,false),(.tmp 7,40,false)]:=fun _ _ _=>by kernel_rfl
def F184:za8:=p184 F235
theorem ok184:OKP (zvs F184):=ST.ok0 (q184 F235) (Aa ok235 Ab) Tryz.func184
abbrev zfz:=(R:Type)→Tq24→Int→Int→LI→(Tq24→Int→Option R)→Option R
def en131 (F:zfz):Ent:=eV 131 [Kq24,(.int .i64),(.int .i64),(.arr 32 (.int .u8))] [Kq24,(.int .i64)] F
def p131 (F182:za9) (F183:zoa) (F184:za8):zfz:=fun R a0 a1 a2 a3 k=>
F182 R a0 a1 (1:Int) fun y1=>
let v2:=y1 !=0;(match v2 with
|true=>k ((0:Int),(List.replicate 32 (0:Int)),(List.replicate 32 (0:Int)),([]:(List Tq3)),()) y1
|false=>F183 R a0.2.2.2.1 a2 a3 fun y3 y4=>
F184 R a0 y3 y4 fun y5 y6=>
k y5 y6)
theorem q131 (F182:za9) (F183:zoa) (F184:za8):EQ (en131 (p131 F182 F183 F184)) (sE 0 34 [] [zvt F182,en183 F183,zvs F184] []) Tryz.f131 [(.cell 8 35,35,false),(.tmp 9,40,false)]:=fun _ _ _=>by kernel_rfl
def F131:zfz:=p131 F182 F183 F184
theorem ok131:OKP (en131 F131):=ST.ok0 (q131 F182 F183 F184) (Aa ok182 (Aa ok183 (Aa ok184 Ab))) Tryz.func131
abbrev G0:Type 1:=(R:Type)→Tq31→Tq11→(Int→Tq31→Option R)→Option R
def Fq (F:G0):EntF:=⟨130,131,[(true,Kq31),(false,Kq11)],[(false,(.int .i64))],fun R x k=>F R x.1 x.2.1 (fun y1 p1=>k (y1,()) (p1,()))⟩
def Ue:List (ResultVar×TypeId×Bool):=[(.tmp 6,40,false)]
def Zj (F131:zfz) (F180:Pr) (F181:S8) (R:Type):Env R:=⟨TT,EQT,1,45,Bq [],Bd [en131 F131,zkm F180,zvu F181] R,Bi [] R,[],Bf [],[],fun _ _ _ _=>none⟩
def Xu (F131:zfz) (F180:Pr) (F181:S8):G0:=fun R a0 a1 k=>
F180 R a0 a1.2.1 fun y1 p2=>
let v3:=y1 !=0;(match v3 with
|true=>k y1 p2
|false=>F181 R p2.1.1 p2.1.2.1 fun y4=>
F131 R p2.1.2.2.2.1 y4 a1.2.1 a1.2.2.2.1 fun y5 y6=>
k y6 ((p2.1.1,p2.1.2.1,p2.1.2.2.1,y5,p2.1.2.2.2.2),p2.2))
theorem q131131 (F131:zfz) (F180:Pr) (F181:S8) (F:G0) (R:Type) (x:AT (Fq F).ins) (k:RT (Fq F).outs→PT (Fq F).ins→Option R):
 xfun (Zj F131 F180 F181 R) (Ai Tryz.f130) Ue (avs (Fq F).ins x++[AV.fn 131]) (finK (Fq F).outs (Fq F).ins k)=Xu F131 F180 F181 R x.1 x.2.1 (fun y1 p1=>k (y1,()) (p1,())):=by kernel_rfl
def D0:G0:=Xu F131 F180 F181
theorem zj8 (R:Type):Az Tryz.prog (Zj F131 F180 F181 R):=⟨tabOK,eqOK,Aq (Aa ok131 (Aa ok180 (Aa ok181 Ab))),Bv,Ak,noYl⟩
theorem zs3:(Fq D0).OK Tryz.prog:=
 Iz (Ef:=fun R=>Zj F131 F180 F181 R) (fun R=>zj8 R) mixed Tryz.func130 (body:=Ai Tryz.f130) (by kernel_rfl) (by kernel_rfl) (np:=1) (nt:=45) (fun _=>rfl) (fun _=>rfl) (by kernel_rfl) (res:=Ue) (by kernel_rfl) (fun _=>rfl) (fun _=>Nat.le_of_ble_eq_true rfl) (by
  intro R;rw [show Ap (Ai Tryz.f130)=[] from by kernel_rfl];exact Br) (fun R x k=>q131131 F131 F180 F181 D0 R x k)
abbrev zf0:=(R:Type)→Tq31→Tq11→(Int→Tq31→Option R)→Option R
def en129 (F:zf0):Ent:=eM 129 [(true,Kq31),(false,Kq11)] [(false,(.int .i64))] F
def e129 (D0:G0) (R:Type):Env R:=⟨TT,EQT,1,8,Bq [],Ei [Fq D0] [] R,Bi [] R,[],Bf [],[],fun _ _ _ _=>none⟩
def p129 (D0:G0):zf0:=fun R a0 a1 k=>
D0 R a0 a1 fun y1 p2=>
k y1 p2
theorem q129 (D0:G0):EQ (en129 (p129 D0)) (e129 D0) Tryz.f129 [(.tmp 4,40,false)]:=fun _ _ _=>by kernel_rfl
def F129:zf0:=p129 D0
theorem env129 (R:Type):Az Tryz.prog (e129 D0 R):=⟨tabOK,eqOK,Cn (Fc zs3 Ep) Ab,Bv,Ak,noYl⟩
theorem ok129:OKP (en129 F129):=ST.ok3 (q129 D0) env129 Tryz.func129 (fun _=>rfl) (fun _=>rfl) (fun _=>rfl) [] trivial
abbrev zn9:=(R:Type)→(List Tq3)→Int→LI→((List Tq3)→Int→Option R)→Option R
def en185 (F:zn9):Ent:=eV 185 [(.sl Kq3),(.int .i64),(.arr 32 (.int .u8))] [(.sl Kq3),(.int .i64)] F
def p185 (F231:P2) (F232:Wn) (F234:za1) (F236:zaz):zn9:=fun R a0 a1 a2 k=>
F231 R a0 fun y1=>
(match (!y1) with
|true=>k ([]:(List Tq3)) (1:Int)
|false=>F232 R a0 a1 fun y2 y3=>
(match (!y3) with
|true=>k ([]:(List Tq3)) (5:Int)
|false=>(match bnd y2 a0.length with
|true=>let v4:=(a0.getD y2.toNat (0,(List.replicate 32 0),false,(List.replicate 32 0),())).2.2.1;(match v4 with
|true=>k ([]:(List Tq3)) (6:Int)
|false=>F236 R a2 fun y5=>
(match bnd y2 a0.length with
|true=>let v6:=(a0.getD y2.toNat (0,(List.replicate 32 0),false,(List.replicate 32 0),())).2.1;let v7:= !(Kd.eqv (.arr 32 (.int .u8)) y5 v6);(match v7 with
|true=>k ([]:(List Tq3)) (13:Int)
|false=>F234 R a0 fun y8=>
(match bnd y2 y8.length with
|true=>let v9:=y8.set y2.toNat ((y8.getD y2.toNat (0,(List.replicate 32 0),false,(List.replicate 32 0),())).1,(y8.getD y2.toNat (0,(List.replicate 32 0),false,(List.replicate 32 0),())).2.1,true,(y8.getD y2.toNat (0,(List.replicate 32 0),false,(List.replicate 32 0),())).2.2.2);(match bnd y2 v9.length with
|true=>let v10:=v9.set y2.toNat ((v9.getD y2.toNat (0,(List.replicate 32 0),false,(List.replicate 32 0),())).1,(v9.getD y2.toNat (0,(List.replicate 32 0),false,(List.replicate 32 0),())).2.1,(v9.getD y2.toNat (0,(List.replicate 32 0),false,(List.replicate 32 0),())).2.2.1,a2,(v9.getD y2.toNat (0,(List.replicate 32 0),false,(List.replicate 32 0),())).2.2.2.2);k v10 (0:Int)
|false=>none)
|false=>none))
|false=>none))
|false=>none)))
theorem q185 (F231:P2) (F232:Wn) (F234:za1) (F236:zaz):EQ (en185 (p185 F231 F232 F234 F236)) (sE 0 50 [] [zkg F231,zvk F232,en234 F234,zvi F236] []) Tryz.f185 [(.tmp 6,33,false),(.tmp 7,40,false)]:=fun _ _ _=>by kernel_rfl
def F185:zn9:=p185 F231 F232 F234 F236
theorem ok185:OKP (en185 F185):=ST.ok0 (q185 F231 F232 F234 F236) (Aa ok231 (Aa ok232 (Aa ok234 (Aa ok236 Ab)))) Tryz.func185
abbrev zfx:=(R:Type)→Tq24→Int→Int→LI→(Tq24→Int→Option R)→Option R
def en133 (F:zfx):Ent:=eV 133 [Kq24,(.int .i64),(.int .i64),(.arr 32 (.int .u8))] [Kq24,(.int .i64)] F
def p133 (F182:za9) (F184:za8) (F185:zn9):zfx:=fun R a0 a1 a2 a3 k=>
F182 R a0 a1 (2:Int) fun y1=>
let v2:=y1 !=0;(match v2 with
|true=>k ((0:Int),(List.replicate 32 (0:Int)),(List.replicate 32 (0:Int)),([]:(List Tq3)),()) y1
|false=>F185 R a0.2.2.2.1 a2 a3 fun y3 y4=>
F184 R a0 y3 y4 fun y5 y6=>
k y5 y6)
theorem q133 (F182:za9) (F184:za8) (F185:zn9):EQ (en133 (p133 F182 F184 F185)) (sE 0 34 [] [zvt F182,zvs F184,en185 F185] []) Tryz.f133 [(.cell 8 35,35,false),(.tmp 9,40,false)]:=fun _ _ _=>by kernel_rfl
def F133:zfx:=p133 F182 F184 F185
theorem ok133:OKP (en133 F133):=ST.ok0 (q133 F182 F184 F185) (Aa ok182 (Aa ok184 (Aa ok185 Ab))) Tryz.func133
abbrev Gz:Type 1:=(R:Type)→Tq31→Tq11→(Int→Tq31→Option R)→Option R
def Fp (F:Gz):EntF:=⟨130,133,[(true,Kq31),(false,Kq11)],[(false,(.int .i64))],fun R x k=>F R x.1 x.2.1 (fun y1 p1=>k (y1,()) (p1,()))⟩
def Ud:List (ResultVar×TypeId×Bool):=[(.tmp 6,40,false)]
def Zi (F133:zfx) (F180:Pr) (F181:S8) (R:Type):Env R:=⟨TT,EQT,1,45,Bq [],Bd [en133 F133,zkm F180,zvu F181] R,Bi [] R,[],Bf [],[],fun _ _ _ _=>none⟩
def Xt (F133:zfx) (F180:Pr) (F181:S8):Gz:=fun R a0 a1 k=>
F180 R a0 a1.2.1 fun y1 p2=>
let v3:=y1 !=0;(match v3 with
|true=>k y1 p2
|false=>F181 R p2.1.1 p2.1.2.1 fun y4=>
F133 R p2.1.2.2.2.1 y4 a1.2.1 a1.2.2.2.1 fun y5 y6=>
k y6 ((p2.1.1,p2.1.2.1,p2.1.2.2.1,y5,p2.1.2.2.2.2),p2.2))
theorem q131133 (F133:zfx) (F180:Pr) (F181:S8) (F:Gz) (R:Type) (x:AT (Fp F).ins) (k:RT (Fp F).outs→PT (Fp F).ins→Option R):
 xfun (Zi F133 F180 F181 R) (Ai Tryz.f130) Ud (avs (Fp F).ins x++[AV.fn 133]) (finK (Fp F).outs (Fp F).ins k)=Xt F133 F180 F181 R x.1 x.2.1 (fun y1 p1=>k (y1,()) (p1,())):=by kernel_rfl
def Dz:Gz:=Xt F133 F180 F181
theorem zj7 (R:Type):Az Tryz.prog (Zi F133 F180 F181 R):=⟨tabOK,eqOK,Aq (Aa ok133 (Aa ok180 (Aa ok181 Ab))),Bv,Ak,noYl⟩
theorem zs2:(Fp Dz).OK Tryz.prog:=
 Iz (Ef:=fun R=>Zi F133 F180 F181 R) (fun R=>zj7 R) mixed Tryz.func130 (body:=Ai Tryz.f130) (by kernel_rfl) (by kernel_rfl) (np:=1) (nt:=45) (fun _=>rfl) (fun _=>rfl) (by kernel_rfl) (res:=Ud) (by kernel_rfl) (fun _=>rfl) (fun _=>Nat.le_of_ble_eq_true rfl) (by
  intro R;rw [show Ap (Ai Tryz.f130)=[] from by kernel_rfl];exact Br) (fun R x k=>q131133 F133 F180 F181 Dz R x k)
abbrev zfy:=(R:Type)→Tq31→Tq11→(Int→Tq31→Option R)→Option R
def en132 (F:zfy):Ent:=eM 132 [(true,Kq31),(false,Kq11)] [(false,(.int .i64))] F
def e132 (Dz:Gz) (R:Type):Env R:=⟨TT,EQT,1,8,Bq [],Ei [Fp Dz] [] R,Bi [] R,[],Bf [],[],fun _ _ _ _=>none⟩
def p132 (Dz:Gz):zfy:=fun R a0 a1 k=>
Dz R a0 a1 fun y1 p2=>
k y1 p2
theorem q132 (Dz:Gz):EQ (en132 (p132 Dz)) (e132 Dz) Tryz.f132 [(.tmp 4,40,false)]:=fun _ _ _=>by kernel_rfl
def F132:zfy:=p132 Dz
theorem env132 (R:Type):Az Tryz.prog (e132 Dz R):=⟨tabOK,eqOK,Cn (Fc zs2 Ep) Ab,Bv,Ak,noYl⟩
theorem ok132:OKP (en132 F132):=ST.ok3 (q132 Dz) env132 Tryz.func132 (fun _=>rfl) (fun _=>rfl) (fun _=>rfl) [] trivial
abbrev zn8:=(R:Type)→Tq21→Int→(Int→Bool→Option R)→Option R
def en186 (F:zn8):Ent:=eV 186 [Kq21,(.int .i64)] [(.int .i64),.bool] F
def p186 (F229:za3):zn8:=fun R a0 a1 k=>
F229 R a0 a1 fun y1=>
(match (!y1) with
|true=>k (0:Int) false
|false=>let v2:=IntKind.i64.wrap (a1+1);(match (!(a0.1==0)) with
|true=>let v3:=Int.tmod v2 a0.1;let v4:=v3==0;k v3 v4
|false=>none))
theorem q186 (F229:za3):EQ (en186 (p186 F229)) (sE 0 19 [] [zvm F229] []) Tryz.f186 [(.tmp 4,3,false),(.tmp 5,4,false)]:=fun _ _ _=>by kernel_rfl
def F186:zn8:=p186 F229
theorem ok186:OKP (en186 F186):=ST.ok0 (q186 F229) (Aa ok229 Ab) Tryz.func186
abbrev FT80:=(R:Type)→LI→Int→LI→(LI→Option R)→Option R
def en80 (F:FT80):Ent:=eV 80 [(.arr 32 (.int .u8)),(.int .u64),(.arr 32 (.int .u8))] [(.arr 32 (.int .u8))] F
def p80 (F115:Ki) (F116:S9):FT80:=fun R a0 a1 a2 k=>
F115 R a1 fun y1=>
let v2:=([(List.take 32 (List.drop 0 a0)),(List.take 8 (List.drop 0 y1)),(List.take 32 (List.drop 0 a2))]:(List LI));F116 R v2 fun y3=>
k y3
theorem q80 (F115:Ki) (F116:S9):EQ (en80 (p80 F115 F116)) (sE 0 15 [] [Ze F115,zkn F116] []) Tryz.f80 [(.cell 6 24,24,false)]:=fun _ _ _=>by kernel_rfl
def F80:FT80:=p80 F115 F116
theorem ok80:OKP (en80 F80):=ST.ok0 (q80 F115 F116) (Aa zih (Aa ok116 Ab)) Tryz.func80
abbrev znp:=(R:Type)→(List Tq3)→(LI→Option R)→Option R
def en271 (F:znp):Ent:=eV 271 [(.sl Kq3)] [(.sl (.int .i64))] F
abbrev zqb (Z:Type):=(List Tq3)→Int→Int→LI→Z
abbrev zz3 (R:Type):=(LI→Option R)→Option R
abbrev Lk:=(R:Type)→zqb (zz3 R)
def Yj (L:Lk):LEnt:=lM 2 [.fix 2 (.own 0 0),.val 5 (.sl Kq3),.val 6 (.int .i64),.val 7 (.int .i64),.row 0 (.int .i64) false] 1 [(.exit 0,[.fix 2 (.own 0 0),.row 0 (.int .i64) false])] L
def e271 (L2:Lk):=sE 0 21 [(0,0)] [] [Yj L2]
def zhn (R:Type):zqb (zqb (Option R)→zz3 R):=fun x1 x2 x3 x4 kc k0=>
let v5:=decide (x3<x2);(match v5 with
|true=>(match bnd x3 x1.length with
|true=>let v6:=x1.getD x3.toNat (0,(List.replicate 32 0),false,(List.replicate 32 0),());let v7:= !v6.2.2.1;(match v7 with
|true=>let v8:=([v6.1]:LI);(match (decide (x4.length+v8.length≤17592186044416)) with
|true=>let v9:=x4++v8;let v10:=IntKind.i64.wrap (x3+1);kc x1 x2 v10 v9
|false=>none)
|false=>let v11:=IntKind.i64.wrap (x3+1);kc x1 x2 v11 x4)
|false=>none)
|false=>k0 x4)
theorem q271_2 (L2:Lk):LEQ (Yj L2) (e271 L2) Tryz.f271 zhn:=fun _ _ _ _=>by kernel_rfl
def Pb:Nat→Lk
 | 0=>fun _ _ _ _ _ _=>none
 | n+1=>fun R x1 x2 x3 x4 k0=>zhn R x1 x2 x3 x4 (fun x1 x2 x3 x4=>Pb n R x1 x2 x3 x4 k0) k0
def p271 (L2:Lk):znp:=fun R a0 k=>
let v1:=(a0.length:Int);L2 R a0 v1 (0:Int) ([]:LI) (fun x2=>
k x2)
theorem q271 (L2:Lk):EQ (en271 (p271 L2)) (e271 L2) Tryz.f271 [(.tmp 2,36,false)]:=fun _ _ _=>by kernel_rfl
def F271:znp:=p271 (Pb FUEL)
theorem ztm:LKP (Yj (Pb FUEL)) 0 21 2 Tryz.f271:=ST.lok (q271_2 (Pb FUEL)) Ab [] trivial
theorem ok271:OKP (en271 F271):=ST.ok1 (q271 (Pb FUEL)) Ab Tryz.func271 [2] ⟨⟨_,rfl,ztm⟩,trivial⟩
abbrev znw:=(R:Type)→Tq24→(Tq24→Tq37→LI→Int→Option R)→Option R
def en237 (F:znw):Ent:=eV 237 [Kq24] [Kq24,Kq37,(.sl (.int .i64)),(.int .i64)] F
def p237 (F80:FT80) (F230:za2) (F271:znp):znw:=fun R a0 k=>
F230 R a0 fun y1=>
(match (!y1) with
|true=>k ((0:Int),(List.replicate 32 (0:Int)),(List.replicate 32 (0:Int)),([]:(List Tq3)),()) ((0:Int),(List.replicate 32 (0:Int)),(List.replicate 32 (0:Int)),(List.replicate 32 (0:Int)),()) ([]:LI) (1:Int)
|false=>let v2:=a0.1==18446744073709551615;(match v2 with
|true=>k ((0:Int),(List.replicate 32 (0:Int)),(List.replicate 32 (0:Int)),([]:(List Tq3)),()) ((0:Int),(List.replicate 32 (0:Int)),(List.replicate 32 (0:Int)),(List.replicate 32 (0:Int)),()) ([]:LI) (3:Int)
|false=>F80 R a0.2.1 a0.1 a0.2.2.1 fun y3=>
let v4:=IntKind.u64.wrap (a0.1+1);F271 R a0.2.2.2.1 fun y5=>
k (v4,y3,(List.replicate 32 (0:Int)),([]:(List Tq3)),()) (a0.1,a0.2.1,a0.2.2.1,y3,()) y5 (0:Int)))
theorem q237 (F80:FT80) (F230:za2) (F271:znp):EQ (en237 (p237 F80 F230 F271)) (sE 0 43 [] [en80 F80,zvl F230,en271 F271] []) Tryz.f237 [(.cell 2 35,35,false),(.cell 3 100,100,false),(.tmp 4,36,false),(.tmp 5,40,false)]:=fun _ _ _=>by kernel_rfl
def F237:znw:=p237 F80 F230 F271
theorem ok237:OKP (en237 F237):=ST.ok0 (q237 F80 F230 F271) (Aa ok80 (Aa ok230 (Aa ok271 Ab))) Tryz.func237
abbrev znv:=(R:Type)→(List Tq5)→((List Tq5)→Option R)→Option R
def en238 (F:znv):Ent:=eV 238 [(.sl Kq5)] [(.sl Kq5)] F
abbrev zqm (Z:Type):=Int→Int→(List Tq5)→Z
abbrev E238_3 (R:Type):=((List Tq5)→Option R)→Option R
abbrev Lp:=(R:Type)→zqm (E238_3 R)
def Yq (L:Lp):LEnt:=lM 3 [.fix 3 (.own 0 0),.val 8 (.int .i64),.val 9 (.int .i64),.row 0 Kq5 false] 1 [(.exit 0,[.fix 3 (.own 0 0),.row 0 Kq5 false])] L
def e238 (F264:Wl) (L3:Lp):=sE 0 23 [] [en264 F264] [Yq L3]
def zhu (R:Type):zqm (zqm (Option R)→E238_3 R):=fun x1 x2 x3 kc k0=>
let v4:=decide (x2<x1);(match v4 with
|true=>(match bnd x2 x3.length with
|true=>let v5:=(x3.getD x2.toNat ((List.replicate 32 0),0,0,())).2.2.1;(match bnd x2 x3.length with
|true=>let v6:=x3.set x2.toNat ((x3.getD x2.toNat ((List.replicate 32 0),0,0,())).1,v5,(x3.getD x2.toNat ((List.replicate 32 0),0,0,())).2.2);let v7:=IntKind.i64.wrap (x2+1);kc x1 v7 v6
|false=>none)
|false=>none)
|false=>k0 x3)
theorem q238_3 (F264:Wl) (L3:Lp):LEQ (Yq L3) (e238 F264 L3) Tryz.f238 zhu:=fun _ _ _ _=>by kernel_rfl
def Pg:Nat→Lp
 | 0=>fun _ _ _ _ _=>none
 | n+1=>fun R x1 x2 x3 k0=>zhu R x1 x2 x3 (fun x1 x2 x3=>Pg n R x1 x2 x3 k0) k0
def p238 (F264:Wl) (L3:Lp):znv:=fun R a0 k=>
F264 R a0 fun y1=>
let v2:=(y1.length:Int);L3 R v2 (0:Int) y1 (fun x3=>
k x3)
theorem q238 (F264:Wl) (L3:Lp):EQ (en238 (p238 F264 L3)) (e238 F264 L3) Tryz.f238 [(.tmp 2,31,false)]:=fun _ _ _=>by kernel_rfl
def F238:znv:=p238 F264 (Pg FUEL)
theorem ztt:LKP (Yq (Pg FUEL)) 0 23 3 Tryz.f238:=ST.lok (q238_3 F264 (Pg FUEL)) (Aa ok264 Ab) [] trivial
theorem ok238:OKP (en238 F238):=ST.ok1 (q238 F264 (Pg FUEL)) (Aa ok264 Ab) Tryz.func238 [3] ⟨⟨_,rfl,ztt⟩,trivial⟩
abbrev zwh:Type 1:=(R:Type)→LI→(LI→Option R)→Option R
def en239 (F:zwh):Ent:=⟨239,[(false,(.sl (.int .i64)))],[(true,(.int .i64))],fun R x k=>F R x.1 (fun y1=>k (y1,()) ())⟩
def e239:Env (RT [(true,(.int .i64))]):=⟨TT,EQT,0,8,Bq [(2,0),(3,0)],fun _ _ _=>none,fun _ _ _=>none,[],Bf [],[],fun _ _ _ _=>none⟩
def F239:zwh:=fun R a0 k=>match decide (List.length ([]:LI)+a0.length≤17592186044416) with | true=>k a0 | false=>none
theorem ok239:(en239 F239).OK Tryz.prog:=
 Ic (e:=(.int .i64)) e239 ⟨tabOK,eqOK,(fun f b K r h=>by cases h),Bv,Ak,noYl⟩ mixed Tryz.func239 (body:=Ai Tryz.f239) (by kernel_rfl) (by kernel_rfl) (by kernel_rfl) (res:=[(.tmp 2,36,true)]) (by kernel_rfl) rfl (by decide) (by kernel_rfl) (lim:=17592186044416) (by kernel_rfl) (fun l=>by kernel_rfl)
abbrev Pq:=(R:Type)→Tq8→Int→(Bool→Option R)→Option R
def zkf (F:Pq):Ent:=eV 243 [Kq8,(.int .i64)] [.bool] F
def p243:Pq:=fun R a0 a1 k=>
let v1:=decide (a1≥0);(match v1 with
|true=>let v2:=decide (a1<1024);(match v2 with
|true=>let v3:=decide (a0.2.1>0);(match v3 with
|true=>let v4:=decide (a0.2.1≤64);k v4
|false=>k false)
|false=>k false)
|false=>k false)
theorem q243:EQ (zkf p243) (sE 0 21 [] [] []) Tryz.f243 [(.tmp 4,4,false)]:=fun _ _ _=>by kernel_rfl
def F243:Pq:=p243
theorem zsv:OKP (zkf F243):=ST.ok0 q243 Ab Tryz.func243
abbrev Kf:Type 1:=(R:Type)→LI→(LI→Option R)→Option R
def zve (F:Kf):Ent:=⟨289,[(false,(.sl (.int .u64)))],[(true,(.int .u64))],fun R x k=>F R x.1 (fun y1=>k (y1,()) ())⟩
def e289:Env (RT [(true,(.int .u64))]):=⟨TT,EQT,0,8,Bq [(2,0),(3,0)],fun _ _ _=>none,fun _ _ _=>none,[],Bf [],[],fun _ _ _ _=>none⟩
def F289:Kf:=fun R a0 k=>match decide (List.length ([]:LI)+a0.length≤17592186044416) with | true=>k a0 | false=>none
theorem zeh:(zve F289).OK Tryz.prog:=
 Ic (e:=(.int .u64)) e289 ⟨tabOK,eqOK,(fun f b K r h=>by cases h),Bv,Ak,noYl⟩ mixed Tryz.func289 (body:=Ai Tryz.f289) (by kernel_rfl) (by kernel_rfl) (by kernel_rfl) (res:=[(.tmp 2,182,true)]) (by kernel_rfl) rfl (by decide) (by kernel_rfl) (lim:=17592186044416) (by kernel_rfl) (fun l=>by kernel_rfl)
abbrev Gt:=(R:Type)→Int→(Int→Option R)→Option R
def ze5 (F:Gt):Ent:=eV 290 [(.int .i64)] [(.int .i64)] F
def p290:Gt:=fun R a0 k=>
let v1:=IntKind.i64.wrap (0 - a0);let v2:=iand .i64 a0 v1;k v2
theorem q290:EQ (ze5 p290) (sE 0 7 [] [] []) Tryz.f290 [(.tmp 2,3,false)]:=fun _ _ _=>by kernel_rfl
def F290:Gt:=p290
theorem Un:OKP (ze5 F290):=ST.ok0 q290 Ab Tryz.func290
abbrev Sz:=(R:Type)→LI→((LI×Unit)→Int→Option R)→Option R
def zvf (F:Sz):Ent:=eV 272 [(.sl (.int .u64))] [(.pair (.sl (.int .u64)) .unit),(.int .i64)] F
abbrev zqa (Z:Type):=Int→(LI×Unit)→LI→Z
abbrev zz2 (R:Type):=((LI×Unit)→LI→Option R)→Option R
abbrev Lj:=(R:Type)→zqa (zz2 R)
def Yi (L:Lj):LEnt:=lM 8 [.fix 2 (.ptr 0 [] (.pair (.sl (.int .u64)) .unit)),.fix 6 (.own 1 0),.val 7 (.int .i64),.var 0 (.pair (.sl (.int .u64)) .unit) false,.row 1 (.int .u64) false] 2 [(.exit 0,[.fix 2 (.ptr 0 [] (.pair (.sl (.int .u64)) .unit)),.fix 6 (.own 1 0),.var 0 (.pair (.sl (.int .u64)) .unit) false,.row 1 (.int .u64) false])] L
def e272 (F223:Je) (F289:Kf) (F290:Gt) (L8:Lj):=sE 0 51 [] [ze6 F223,zve F289,ze5 F290] [Yi L8]
def zhm (F290:Gt) (R:Type):zqa (zqa (Option R)→zz2 R):=fun x1 x2 x3 kc k0=>
let v4:=(x3.length:Int);let v5:=decide (x1≤v4);(match v5 with
|true=>F290 R x1 fun y6=>
let v7:=IntKind.i64.wrap (x1+y6);let v8:=(x3.length:Int);let v9:=decide (v7≤v8);(match v9 with
|true=>let v10:=IntKind.i64.wrap (v7 - 1);(match bnd v10 x3.length with
|true=>let v11:=x3.getD v10.toNat 0;let v12:=IntKind.i64.wrap (x1 - 1);(match bnd v12 x3.length with
|true=>let v13:=x3.getD v12.toNat 0;let v14:=IntKind.u64.wrap (v11+v13);(match bnd v10 x3.length with
|true=>let v15:=x3.set v10.toNat v14;let v16:=IntKind.i64.wrap (x1+1);kc v16 x2 v15
|false=>none)
|false=>none)
|false=>none)
|false=>let v17:=IntKind.i64.wrap (x1+1);kc v17 x2 x3)
|false=>k0 x2 x3)
theorem q272_8 (F223:Je) (F289:Kf) (F290:Gt) (L8:Lj):LEQ (Yi L8) (e272 F223 F289 F290 L8) Tryz.f272 (zhm F290):=fun _ _ _ _=>by kernel_rfl
def Pa:Nat→Lj
 | 0=>fun _ _ _ _ _=>none
 | n+1=>fun R x1 x2 x3 k0=>zhm F290 R x1 x2 x3 (fun x1 x2 x3=>Pa n R x1 x2 x3 k0) k0
def p272 (F223:Je) (F289:Kf) (L8:Lj):Sz:=fun R a0 k=>
let v1:=(a0.length:Int);let v2:=decide (v1>1048576);(match v2 with
|true=>k (([]:LI),()) (14:Int)
|false=>F223 R a0 fun y3 y4=>
(match (!y4) with
|true=>k (([]:LI),()) (11:Int)
|false=>F289 R a0 fun y5=>
L8 R (1:Int) (([]:LI),()) y5 (fun x6 x7=>
k (x7,()) (0:Int))))
theorem q272 (F223:Je) (F289:Kf) (F290:Gt) (L8:Lj):EQ (zvf (p272 F223 F289 L8)) (e272 F223 F289 F290 L8) Tryz.f272 [(.cell 2 221,221,false),(.tmp 3,40,false)]:=fun _ _ _=>by kernel_rfl
def F272:Sz:=p272 F223 F289 (Pa FUEL)
theorem ztl:LKP (Yi (Pa FUEL)) 0 51 8 Tryz.f272:=ST.lok (q272_8 F223 F289 F290 (Pa FUEL)) (Aa zif (Aa zeh (Aa Un Ab))) [] trivial
theorem ok272:OKP (zvf F272):=ST.ok1 (q272 F223 F289 F290 (Pa FUEL)) (Aa zif (Aa zeh (Aa Un Ab))) Tryz.func272 [8] ⟨⟨_,rfl,ztl⟩,trivial⟩
abbrev znl:=(R:Type)→Int→Int→(Int→Option R)→Option R
def en277 (F:znl):Ent:=eV 277 [(.int .u32),(.int .u32)] [(.int .u64)] F
def p277:znl:=fun R a0 a1 k=>
let v1:=IntKind.u64.wrap a0;let v2:=ishl .u64 v1 (32:Int);let v3:=IntKind.u64.wrap a1;let v4:=ior .u64 v2 v3;k v4
theorem q277:EQ (en277 p277) (sE 0 11 [] [] []) Tryz.f277 [(.tmp 4,32,false)]:=fun _ _ _=>by kernel_rfl
def F277:znl:=p277
theorem ok277:OKP (en277 F277):=ST.ok0 q277 Ab Tryz.func277
abbrev znm:=(R:Type)→LI→Int→(Tq40→Option R)→Option R
def en276 (F:znm):Ent:=eV 276 [(.arr 32 (.int .u8)),(.int .u64)] [Kq40] F
def p276:znm:=fun R a0 a1 k=>
k ((2:Int),([]:LI),(0:Int),a0,a1,(0:Int),())
theorem q276:EQ (en276 p276) (sE 0 8 [] [] []) Tryz.f276 [(.cell 4 225,225,false)]:=fun _ _ _=>by kernel_rfl
def F276:znm:=p276
theorem ok276:OKP (en276 F276):=ST.ok0 q276 Ab Tryz.func276
abbrev S4:=(R:Type)→Tq8→Int→Int→(Tq40→Option R)→Option R
def zke (F:S4):Ent:=eV 245 [Kq8,(.int .u32),(.int .i64)] [Kq40] F
def p245 (F276:znm) (F277:znl):S4:=fun R a0 a1 a2 k=>
let v1:=IntKind.u32.wrap a2;F277 R a1 v1 fun y2=>
F276 R a0.1 y2 fun y3=>
k y3
theorem q245 (F276:znm) (F277:znl):EQ (zke (p245 F276 F277)) (sE 0 14 [] [en276 F276,en277 F277] []) Tryz.f245 [(.cell 6 225,225,false)]:=fun _ _ _=>by kernel_rfl
def F245:S4:=p245 F276 F277
theorem ok245:OKP (zke F245):=ST.ok0 (q245 F276 F277) (Aa ok276 (Aa ok277 Ab)) Tryz.func245
abbrev Md:=(R:Type)→(LI×Unit)→(Int→Option R)→Option R
def zkb (F:Md):Ent:=eV 325 [(.pair (.sl (.int .u64)) .unit)] [(.int .i64)] F
def p325:Md:=fun R a0 k=>
let v1:=(a0.1.length:Int);k v1
theorem q325:EQ (zkb p325) (sE 0 6 [] [] []) Tryz.f325 [(.tmp 2,3,false)]:=fun _ _ _=>by kernel_rfl
def F325:Md:=p325
theorem zic:OKP (zkb F325):=ST.ok0 q325 Ab Tryz.func325
abbrev zad:=(R:Type)→(LI×Unit)→Int→(Int→Option R)→Option R
def zu7 (F:zad):Ent:=eV 324 [(.pair (.sl (.int .u64)) .unit),(.int .i64)] [(.int .u64)] F
abbrev zpv (Z:Type):=Int→Int→(LI×Unit)→Z
abbrev zzn (R:Type):=(Int→Option R)→Option R
abbrev Lc:=(R:Type)→zpv (zzn R)
def X8 (L:Lc):LEnt:=lM 1 [.val 1 (.int .i64),.fix 2 (.ptr 0 [] (.pair (.sl (.int .u64)) .unit)),.val 4 (.int .u64),.var 0 (.pair (.sl (.int .u64)) .unit) false] 1 [(.exit 0,[.val 4 (.int .u64)])] L
def e324 (F290:Gt) (L1:Lc):=sE 0 20 [] [ze5 F290] [X8 L1]
def zhf (F290:Gt) (R:Type):zpv (zpv (Option R)→zzn R):=fun x1 x2 x3 kc k0=>
let v4:=decide (x1>0);(match v4 with
|true=>let v5:=IntKind.i64.wrap (x1 - 1);(match bnd v5 x3.1.length with
|true=>let v6:=x3.1.getD v5.toNat 0;let v7:=IntKind.u64.wrap (x2+v6);F290 R x1 fun y8=>
let v9:=IntKind.i64.wrap (x1 - y8);kc v9 v7 x3
|false=>none)
|false=>k0 x2)
theorem q324_1 (F290:Gt) (L1:Lc):LEQ (X8 L1) (e324 F290 L1) Tryz.f324 (zhf F290):=fun _ _ _ _=>by kernel_rfl
def O5:Nat→Lc
 | 0=>fun _ _ _ _ _=>none
 | n+1=>fun R x1 x2 x3 k0=>zhf F290 R x1 x2 x3 (fun x1 x2 x3=>O5 n R x1 x2 x3 k0) k0
def p324 (L1:Lc):zad:=fun R a0 a1 k=>
L1 R a1 (0:Int) a0 (fun x1=>
k x1)
theorem q324 (F290:Gt) (L1:Lc):EQ (zu7 (p324 L1)) (e324 F290 L1) Tryz.f324 [(.tmp 4,32,false)]:=fun _ _ _=>by kernel_rfl
def F324:zad:=p324 (O5 FUEL)
theorem ztb:LKP (X8 (O5 FUEL)) 0 20 1 Tryz.f324:=ST.lok (q324_1 F290 (O5 FUEL)) (Aa Un Ab) [] trivial
theorem ok324:OKP (zu7 F324):=ST.ok1 (q324 F290 (O5 FUEL)) (Aa Un Ab) Tryz.func324 [1] ⟨⟨_,rfl,ztb⟩,trivial⟩
abbrev Ke:=(R:Type)→(LI×Unit)→(Int→Option R)→Option R
def zkc (F:Ke):Ent:=eV 308 [(.pair (.sl (.int .u64)) .unit)] [(.int .u64)] F
def p308 (F324:zad) (F325:Md):Ke:=fun R a0 k=>
F325 R a0 fun y1=>
F324 R a0 y1 fun y2=>
k y2
theorem q308 (F324:zad) (F325:Md):EQ (zkc (p308 F324 F325)) (sE 0 7 [] [zu7 F324,zkb F325] []) Tryz.f308 [(.tmp 2,32,false)]:=fun _ _ _=>by kernel_rfl
def F308:Ke:=p308 F324 F325
theorem zeg:OKP (zkc F308):=ST.ok0 (q308 F324 F325) (Aa ok324 (Aa zic Ab)) Tryz.func308
abbrev zab:=(R:Type)→Tq40→(Int→Bool→Option R)→Option R
def zu6 (F:zab):Ent:=eV 331 [Kq40] [(.int .u64),.bool] F
def p331:zab:=fun R a0 k=>
let v1:=a0.1==1;(match v1 with
|true=>let v2:=(a0.2.1.length:Int);let v3:=IntKind.u64.wrap v2;let v4:=IntKind.u64.wrap (v3*8);let v5:=decide (a0.2.2.1≤v4);k a0.2.2.1 v5
|false=>let v6:=a0.1==2;(match v6 with
|true=>k (4611686018427387904:Int) true
|false=>k (0:Int) false))
theorem q331:EQ (zu6 p331) (sE 0 20 [] [] []) Tryz.f331 [(.tmp 2,32,false),(.tmp 3,4,false)]:=fun _ _ _=>by kernel_rfl
def F331:zab:=p331
theorem ok331:OKP (zu6 F331):=ST.ok0 q331 Ab Tryz.func331
abbrev Me:=(R:Type)→Tq40→(Bool→Option R)→Option R
def ze3 (F:Me):Ent:=eV 318 [Kq40] [.bool] F
def p318 (F331:zab):Me:=fun R a0 k=>
F331 R a0 fun y1 y2=>
(match y2 with
|true=>let v3:=decide (a0.2.2.2.2.2.1≤y1);k v3
|false=>k false)
theorem q318 (F331:zab):EQ (ze3 (p318 F331)) (sE 0 17 [] [zu6 F331] []) Tryz.f318 [(.tmp 2,4,false)]:=fun _ _ _=>by kernel_rfl
def F318:Me:=p318 F331
theorem zid:OKP (ze3 F318):=ST.ok0 (q318 F331) (Aa ok331 Ab) Tryz.func318
abbrev zaj:=(R:Type)→Tq40→Int→Int→(Bool→Option R)→Option R
def en314 (F:zaj):Ent:=eV 314 [Kq40,(.int .u64),(.int .i64)] [.bool] F
def p314 (F318:Me):zaj:=fun R a0 a1 a2 k=>
F318 R a0 fun y1=>
(match y1 with
|true=>let v2:=decide (a1>0);(match v2 with
|true=>let v3:=decide (a1<9223372036854775808);(match v3 with
|true=>let v4:=decide (a2>0);(match v4 with
|true=>let v5:=decide (a2≤64);k v5
|false=>k false)
|false=>k false)
|false=>k false)
|false=>k false)
theorem q314 (F318:Me):EQ (en314 (p314 F318)) (sE 0 25 [] [ze3 F318] []) Tryz.f314 [(.tmp 6,4,false)]:=fun _ _ _=>by kernel_rfl
def F314:zaj:=p314 F318
theorem ok314:OKP (en314 F314):=ST.ok0 (q314 F318) (Aa zid Ab) Tryz.func314
abbrev zah:=(R:Type)→Int→(Int→Option R)→Option R
def en316 (F:zah):Ent:=eV 316 [(.int .u64)] [(.int .i64)] F
def p316 (F329:znc):zah:=fun R a0 k=>
let v1:=if (1:Int)>a0 then (1:Int) else a0;let v2:=IntKind.u64.wrap (v1 - 1);F329 R v2 fun y3=>
k y3
theorem q316 (F329:znc):EQ (en316 (p316 F329)) (sE 0 7 [] [en329 F329] []) Tryz.f316 [(.tmp 2,3,false)]:=fun _ _ _=>by kernel_rfl
def F316:zah:=p316 F329
theorem ok316:OKP (en316 F316):=ST.ok0 (q316 F329) (Aa ok329 Ab) Tryz.func316
abbrev zac:=(R:Type)→Tq40→(Int→Option R)→Option R
def en327 (F:zac):Ent:=eV 327 [Kq40] [(.int .u64)] F
def p327 (F318:Me) (F331:zab):zac:=fun R a0 k=>
F318 R a0 fun y1=>
(match (!y1) with
|true=>k (0:Int)
|false=>F331 R a0 fun y2 y3=>
let v4:=IntKind.u64.wrap (y2 - a0.2.2.2.2.2.1);k v4)
theorem q327 (F318:Me) (F331:zab):EQ (en327 (p327 F318 F331)) (sE 0 17 [] [ze3 F318,zu6 F331] []) Tryz.f327 [(.tmp 2,32,false)]:=fun _ _ _=>by kernel_rfl
def F327:zac:=p327 F318 F331
theorem ok327:OKP (en327 F327):=ST.ok0 (q327 F318 F331) (Aa zid (Aa ok331 Ab)) Tryz.func327
abbrev zm9:=(R:Type)→LI→Int→Int→(LI→Option R)→Option R
def en335 (F:zm9):Ent:=eV 335 [(.arr 32 (.int .u8)),(.int .u64),(.int .u64)] [(.arr 32 (.int .u8))] F
def p335 (F115:Ki) (F116:S9):zm9:=fun R a0 a1 a2 k=>
F115 R a1 fun y1=>
F115 R a2 fun y2=>
let v3:=([(List.take 32 (List.drop 0 a0)),(List.take 8 (List.drop 0 y1)),(List.take 8 (List.drop 0 y2))]:(List LI));F116 R v3 fun y4=>
k y4
theorem q335 (F115:Ki) (F116:S9):EQ (en335 (p335 F115 F116)) (sE 0 18 [] [Ze F115,zkn F116] []) Tryz.f335 [(.cell 6 24,24,false)]:=fun _ _ _=>by kernel_rfl
def F335:zm9:=p335 F115 F116
theorem ok335:OKP (en335 F335):=ST.ok0 (q335 F115 F116) (Aa zih (Aa ok116 Ab)) Tryz.func335
abbrev FT334:=(R:Type)→Tq43→Int→(Int→Tq43→Option R)→Option R
def en334 (F:FT334):Ent:=eM 334 [(true,Kq43),(false,(.int .u64))] [(false,(.int .u8))] F
def p334 (F335:zm9):FT334:=fun R a0 a1 k=>
let v1:=a0.1.1==1;(match v1 with
|true=>(match bnd a1 a0.1.2.1.length with
|true=>let v2:=a0.1.2.1.getD a1.toNat 0;k v2 a0
|false=>none)
|false=>let v3:=IntKind.u64.wrap (Int.tdiv a1 (32:Int));let v4:= !a0.2.2.2.1;(match v4 with
|true=>F335 R a0.1.2.2.2.1 a0.1.2.2.2.2.1 v3 fun y5=>
let v6:=Int.tmod a1 (32:Int);(match (bnd v6 (32:Int)) with
|true=>let v7:=y5.getD v6.toNat 0;k v7 (a0.1,y5,v3,true,a0.2.2.2.2)
|false=>none)
|false=>let v8:=v3 !=a0.2.2.1;(match v8 with
|true=>F335 R a0.1.2.2.2.1 a0.1.2.2.2.2.1 v3 fun y9=>
let v10:=Int.tmod a1 (32:Int);(match (bnd v10 (32:Int)) with
|true=>let v11:=y9.getD v10.toNat 0;k v11 (a0.1,y9,v3,true,a0.2.2.2.2)
|false=>none)
|false=>let v12:=Int.tmod a1 (32:Int);(match (bnd v12 (32:Int)) with
|true=>let v13:=a0.2.1.getD v12.toNat 0;k v13 a0
|false=>none))))
theorem q334 (F335:zm9):EQ (en334 (p334 F335)) (sE 1 67 [] [en335 F335] []) Tryz.f334 [(.tmp 4,5,false)]:=fun _ _ _=>by kernel_rfl
def F334:FT334:=p334 F335
theorem ok334:OKP (en334 F334):=ST.ok0 (q334 F335) (Aa ok335 Ab) Tryz.func334
abbrev zfn:Type 1:=(R:Type)→Tq43→(Int→Tq43→Option R)→Option R
abbrev KS328:Kd:=Kq40
abbrev Vw:Kd:=Kq42
abbrev K328:Kd:=.pair KS328 Vw
def en328 (F:zfn):Ent:=⟨328,[(true,K328)],[(false,(.int .u64))],fun R x k=>F R x.1 (fun y1 p1=>k (y1,()) (p1,()))⟩
def zw3:List (ResultVar×TypeId×Bool):=[(.tmp 2,32,false)]
def u328:(R:Type)→K328.T→Int→Vw.T→(Int→K328.T→Option R)→Option R:=fun R a0 y2 q k=>
let v6:=ishr .u8 y2 (IntKind.u64.wrap ((7:Int) - (Int.tmod a0.1.2.2.2.2.2.1 (8:Int))));let v7:=IntKind.u64.wrap (a0.1.2.2.2.2.2.1+1);let v8:=iand .u8 v6 (1:Int);let v9:=IntKind.u64.wrap v8;k v9 ((a0.1.1,a0.1.2.1,a0.1.2.2.1,a0.1.2.2.2.1,a0.1.2.2.2.2.1,v7,a0.1.2.2.2.2.2.2),q)
def F328:zfn:=fun R a0 k=>
F334 R a0 (IntKind.u64.wrap (Int.tdiv a0.1.2.2.2.2.2.1 (8:Int))) fun y2 p3=>
match decide (0≤IntKind.u64.wrap ((7:Int) - (Int.tmod a0.1.2.2.2.2.2.1 (8:Int)))) with
|true=>u328 R a0 y2 p3.2 k
|false=>none
theorem zou (R:Type) (a0:K328.T) (a1:Int) (k:Int→K328.T→Option R):F334 R a0 a1 k=F334 R a0 a1 (fun y p=>@ite (Option R) (p.1=a0.1) (Classical.propDecidable _) (k y p) none):=by
 simp only [F334,p334,if_true]
def zsf {α:Type} (x y:α):Bool:=@decide (x=y) (Classical.propDecidable _)
theorem zea {α:Type} (x:α):zsf x x=true:=@decide_eq_true _ (Classical.propDecidable _) rfl
theorem zse {α:Type} {x y:α} (h:zsf x y=true):x=y:=@of_decide_eq_true _ (Classical.propDecidable _) h
def zka (a0:K328.T) (a1 y:Int) (q:Vw.T):Ent:=⟨334,[(true,K328),(false,(.int .u64))],[(false,(.int .u8))],fun _ x k=>match zsf x (a0,a1,()) with | true=>k (y,()) ((a0.1,q),()) | false=>none⟩
theorem ok334c {a0:K328.T} {a1 y:Int} {q:Vw.T} (h:Holds Tryz.prog 334 (avs [(true,K328),(false,(.int .u64))] (a0,a1,())) (rvs [(false,(.int .u8))] (y,())) (tvs [(true,K328),(false,(.int .u64))] ((a0.1,q),()))):(zka a0 a1 y q).OK Tryz.prog:=by
 intro R x k r hr;simp only [zka] at hr;split at hr
 ·rename_i he
  have:=zse he;subst this;exact ⟨(y,()),((a0.1,q),()),h,hr⟩
 ·cases hr
def c328 (a0:K328.T) (a1 y:Int) (q:Vw.T):Env (St×List Acc):=⟨TT,EQT,1,32,Bq [],Bd [zka a0 a1 y q] _,Bi [] _,[],Bf [],[],fun _ _ _ _=>none⟩
def e328 (R:Type):Env R:=⟨TT,EQT,1,32,Bq [],Bd [] R,Bi [] R,[],Bf [],[],fun _ _ _ _=>none⟩
def Jz:Code→Code
 | .seq a _=>a
 | c=>c
def zcp:Code→Array Oper
 | .seq _ (.seq (.region _ ops _) _)=>ops
 | _=>#[]
def zw5:Code→Oper
 | .seq _ (.seq (.region _ ops _) _)=>(ops[12]?).getD ⟨none,.assign (.tmp 0),0,"",#[],none⟩
 | _=>⟨none,.assign (.tmp 0),0,"",#[],none⟩
def Rq:Code→Code
 | .seq _ (.seq _ c)=>c
 | c=>c
def zrr (a0:K328.T):St:=⟨[(0,.ptr 0 [] K328)],[(0,.var K328 a0 false)],1⟩
def zrq (a0:K328.T):St:=⟨[(2,.val (.int .u64) (0:Int)),(0,.ptr 0 [] K328)],[(0,.var K328 a0 false)],1⟩
def z2328 (a0:K328.T) (y:Int) (q:Vw.T):St:=
  ⟨[(3,.val (.int .u8) (ishr .u8 y (IntKind.u64.wrap ((7:Int) - (Int.tmod a0.1.2.2.2.2.2.1 (8:Int)))))),(19,.val (.int .u8) (ishr .u8 y (IntKind.u64.wrap ((7:Int) - (Int.tmod a0.1.2.2.2.2.2.1 (8:Int)))))),
    (18,.val (.int .u64) (IntKind.u64.wrap ((7:Int) - (Int.tmod a0.1.2.2.2.2.2.1 (8:Int))))),(17,.val (.int .u64) (Int.tmod a0.1.2.2.2.2.2.1 (8:Int))),(16,.val (.int .u64) a0.1.2.2.2.2.2.1),
    (15,.ptr 0 [.fld 0,.fld 5] (.int .u64)),(14,.ptr 0 [.fld 0] KS328),(13,.ptr 0 [] K328),(12,.ptr 0 [] K328),(11,.val (.int .u8) y),(10,.val (.int .u64) (IntKind.u64.wrap (Int.tdiv a0.1.2.2.2.2.2.1 (8:Int)))),(9,.val (.int .u64) a0.1.2.2.2.2.2.1),
    (8,.ptr 0 [.fld 0,.fld 5] (.int .u64)),(7,.ptr 0 [.fld 0] KS328),(6,.ptr 0 [] K328),(5,.ptr 0 [] K328),(4,.ptr 0 [] K328),(2,.val (.int .u64) (0:Int)),(0,.ptr 0 [] K328)],
   [(0,.var K328 (a0.1,q) false),(0,.var K328 a0 false)],1⟩
def zxo:List Acc:=[([],[],false),([],[],false),([],[],false),([],[],false),([],[0],false),([],[],false),([],[],false),([],[],false),([],[],false),([0],[0,0],false),([],[],false),([],[0],false),([],[],false),([],[],false),([],[],false),([],[],false),([],[],false)]
theorem x0328 (a0:K328.T):exec (e328 St) (Jz (Ai Tryz.f328)) (zrr a0) (fun e σ=>match e with | .normal=>some σ | _=>none)=some (zrq a0):=by kernel_rfl
theorem x1328 (a0:K328.T) (y:Int) (q:Vw.T):xops (c328 a0 (IntKind.u64.wrap (Int.tdiv a0.1.2.2.2.2.2.1 (8:Int))) y q) 1 (zcp (Ai Tryz.f328)) (zcp (Ai Tryz.f328)).toList 0 (zrq a0) [] (fun σ' accs=>some (σ',accs))=
    (match zsf (a0,IntKind.u64.wrap (Int.tdiv a0.1.2.2.2.2.2.1 (8:Int)),()) (a0,IntKind.u64.wrap (Int.tdiv a0.1.2.2.2.2.2.1 (8:Int)),()) with
     | true=>(match decide (0≤IntKind.u64.wrap ((7:Int) - (Int.tmod a0.1.2.2.2.2.2.1 (8:Int)))) with | true=>some (z2328 a0 y q,zxo) | false=>none)
     | false=>none):=by kernel_rfl
theorem x2328 (R:Type) (a0:K328.T) (y:Int) (q:Vw.T) (k:RT [(false,Kd.int .u64)]→PT [(true,K328)]→Option R):
  exec (e328 R) (Rq (Ai Tryz.f328)) (z2328 a0 y q) (funK (e328 R) zw3 (finK [(false,.int .u64)] [(true,K328)] k))=u328 R a0 y q (fun y1 p1=>k (y1,()) (p1,())):=by kernel_rfl
theorem ok328:(en328 F328).OK Tryz.prog:=by
 intro R x k r h;obtain ⟨a0,u⟩:=x
 change F328 R a0 (fun y1 p1=>k (y1,()) (p1,()))=some r at h
 unfold F328 at h;rw [zou] at h;obtain ⟨⟨y,uy⟩,⟨⟨p1,q⟩,up⟩,hH,hk⟩:=ok334 R (a0,IntKind.u64.wrap (Int.tdiv a0.1.2.2.2.2.2.1 (8:Int)),()) (fun y p=>(fun (y:Int) (p:K328.T)=>@ite (Option R) (p.1=a0.1) (Classical.propDecidable _) (match decide (0≤IntKind.u64.wrap ((7:Int) - (Int.tmod a0.1.2.2.2.2.2.1 (8:Int)))) with
  | true=>u328 R a0 y p.2 (fun y1 p1=>k (y1,()) (p1,()))
  | false=>none) none) y.1 p.1) r h
 simp only at hk;split at hk<;>try (cases hk; done)
 rename_i hp;subst hp;split at hk<;>try (cases hk; done)
 rename_i hv;have hE0:Az Tryz.prog (e328 R):=⟨tabOK,eqOK,Aq Ab,Bv,Ak,noYl⟩
 have hE1:Az Tryz.prog (e328 St):=⟨tabOK,eqOK,Aq Ab,Bv,Ak,noYl⟩
 have hE2:Az Tryz.prog (c328 a0 (IntKind.u64.wrap (Int.tdiv a0.1.2.2.2.2.2.1 (8:Int))) y q):=⟨tabOK,eqOK,Aq (Aa (ok334c hH) Ab),Bv,Ak,noYl⟩
 have hL0:Leads 1 32 Tryz.prog (Jz (Ai Tryz.f328)) (zrr a0) .normal (zrq a0):=by
  obtain ⟨e,σ,h1,_,h2⟩:=C2 hE1 mixed (Jz (Ai Tryz.f328)) (by rw [show Ap (Jz (Ai Tryz.f328))=[] from by kernel_rfl]; exact Br) _ _ _ (x0328 a0);cases e with
  | normal=>simp only [Option.some.injEq] at h1; subst h1; exact h2
  | exit i=>cases h1
  | ret=>cases h1
 have hL1:Leads 1 32 Tryz.prog (.region 1 (zcp (Ai Tryz.f328)) true) (zrq a0) .normal (z2328 a0 y q):=by
  have hx:=x1328 a0 y q;rw [zea,hv] at hx;obtain ⟨w1,w2⟩:=zsi (i0:=7) (b:=0) (l:=zxo.reverse) (by kernel_rfl);exact zem (j0:=12) (i0:=7) (b:=0) (d:=16) (t:=15) (nx:=1) (o:=zw5 (Ai Tryz.f328)) (b1:=.var K328 a0 false) (b2:=.var K328 (a0.1,q) false) hE2 mixed hx (by kernel_rfl) w1 w2 (by omega)
   (by kernel_rfl) (by kernel_rfl) (by kernel_rfl) (by kernel_rfl) rfl (Nat.lt_of_succ_le (Nat.le_of_ble_eq_true rfl)) (zg1 (by kernel_rfl)) (zg0 (by kernel_rfl))
   (by rw [show (zw5 (Ai Tryz.f328)).op.operands=#[.tmp 15] from by kernel_rfl]; intro x hx; simpa using hx) rfl rfl
   (fun B hB=>by rcases hB with rfl | rfl<;>kernel_rfl)
 have hbody:Ai Tryz.f328=.seq (Jz (Ai Tryz.f328)) (.seq (.region 1 (zcp (Ai Tryz.f328)) true) (Rq (Ai Tryz.f328))):=by kernel_rfl
 have hx2:=x2328 R a0 y q k;rw [hk] at hx2;obtain ⟨e,σ,h1,_,h2⟩:=C2 hE0 mixed (Rq (Ai Tryz.f328)) (by rw [show Ap (Rq (Ai Tryz.f328))=[] from by kernel_rfl]; exact Br) _ _ _ hx2;have hL:=Leads.seq hL0 (Leads.seq hL1 h2);rw [←hbody] at hL;obtain ⟨rs,os,g1,g2⟩:=zd3 hE0 Tryz.func328 (body:=Ai Tryz.f328) (by kernel_rfl) (enters Tryz.func328 (by kernel_rfl) (by kernel_rfl)) (by kernel_rfl) (res:=zw3) (by kernel_rfl) («as»:=[.ptr K328 a0]) rfl (Nat.le_of_ble_eq_true rfl) (tm0:=(zrr a0).tm) (me0:=(zrr a0).me) rfl hL h1;unfold finK at g2;split at g2<;>try (cases g2; done)
 rename_i y' hy;split at g2<;>try (cases g2; done)
 rename_i p' hp;rw [Ie hy,J2 hp] at g1;exact ⟨y',p',g1,g2⟩
abbrev zai:=(R:Type)→Tq40→Int→(Int→Tq40→Int→Option R)→Option R
def en315 (F:zai):Ent:=eV 315 [Kq40,(.int .i64)] [(.int .u64),Kq40,(.int .i64)] F
abbrev zpz (Z:Type):=Int→Int→Int→Tq40→Tq43→Z
abbrev zzr (R:Type):=(Int→Tq40→Tq43→Option R)→Option R
abbrev Ld:=(R:Type)→zpz (zzr R)
def X9 (L:Ld):LEnt:=lM 7 [.val 4 (.int .u64),.fix 5 (.ptr 1 [] Kq40),.fix 7 (.ptr 2 [] Kq43),.val 31 (.int .i64),.val 32 (.int .i64),.var 1 Kq40 false,.var 2 Kq43 false] 3 [(.exit 1,[.val 4 (.int .u64),.fix 5 (.ptr 1 [] Kq40),.fix 7 (.ptr 2 [] Kq43),.var 1 Kq40 false,.var 2 Kq43 false])] L
def e315 (F318:Me) (F327:zac) (F328:zfn) (L7:Ld):=sE 0 45 [] [ze3 F318,en327 F327,en328 F328] [X9 L7]
def zhg (F328:zfn) (R:Type):zpz (zpz (Option R)→zzr R):=fun x1 x2 x3 x4 x5 kc k0=>
let v6:=decide (x3<x2);(match v6 with
|true=>let v7:=ishl .u64 x1 (1:Int);F328 R x5 fun y8 p9=>
let v10:=ior .u64 v7 y8;let v11:=IntKind.i64.wrap (x3+1);kc v10 x2 v11 x4 p9
|false=>k0 x1 x4 x5)
theorem q315_7 (F318:Me) (F327:zac) (F328:zfn) (L7:Ld):LEQ (X9 L7) (e315 F318 F327 F328 L7) Tryz.f315 (zhg F328):=fun _ _ _ _=>by kernel_rfl
def Mu:Nat→Ld
 | 0=>fun _ _ _ _ _ _ _=>none
 | n+1=>fun R x1 x2 x3 x4 x5 k0=>zhg F328 R x1 x2 x3 x4 x5 (fun x1 x2 x3 x4 x5=>Mu n R x1 x2 x3 x4 x5 k0) k0
def p315 (F318:Me) (F327:zac) (L7:Ld):zai:=fun R a0 a1 k=>
F318 R a0 fun y1=>
(match (!y1) with
|true=>k (0:Int) a0 (1:Int)
|false=>let v2:=decide (a1<0);(match v2 with
|true=>k (0:Int) a0 (1:Int)
|false=>let v3:=decide (a1>64);(match v3 with
|true=>k (0:Int) a0 (1:Int)
|false=>let v4:=IntKind.u64.wrap a1;F327 R a0 fun y5=>
let v6:=decide (v4>y5);(match v6 with
|true=>k (0:Int) a0 (8:Int)
|false=>L7 R (0:Int) a1 (0:Int) ((0:Int),([]:LI),(0:Int),(List.replicate 32 (0:Int)),(0:Int),(0:Int),()) (a0,(List.replicate 32 (0:Int)),(0:Int),false,()) (fun x7 x8 x9=>
k x7 x9.1 (0:Int))))))
theorem q315 (F318:Me) (F327:zac) (F328:zfn) (L7:Ld):EQ (en315 (p315 F318 F327 L7)) (e315 F318 F327 F328 L7) Tryz.f315 [(.tmp 4,32,false),(.cell 5 225,225,false),(.tmp 6,40,false)]:=fun _ _ _=>by kernel_rfl
def F315:zai:=p315 F318 F327 (Mu FUEL)
theorem ztc:LKP (X9 (Mu FUEL)) 0 45 7 Tryz.f315:=ST.lok (q315_7 F318 F327 F328 (Mu FUEL)) (Aa zid (Aa ok327 (Aa ok328 Ab))) [] trivial
theorem ok315:OKP (en315 F315):=ST.ok1 (q315 F318 F327 F328 (Mu FUEL)) (Aa zid (Aa ok327 (Aa ok328 Ab))) Tryz.func315 [7] ⟨⟨_,rfl,ztc⟩,trivial⟩
abbrev zar:=(R:Type)→Tq40→Int→Int→(Int→Tq40→Int→Option R)→Option R
def zvc (F:zar):Ent:=eV 296 [Kq40,(.int .u64),(.int .i64)] [(.int .u64),Kq40,(.int .i64)] F
abbrev zp5 (Z:Type):=Int→Int→Int→Tq40→Tq40→Z
abbrev zzx (R:Type):=(Int→Int→Tq40→Option R)→(Tq40→Tq40→Option R)→Option R
abbrev Lg:=(R:Type)→zp5 (zzx R)
def Ye (L:Lg):LEnt:=lM 4 [.val 1 (.int .u64),.fix 3 (.ptr 0 [] Kq40),.fix 7 (.ptr 1 [] Kq40),.val 18 (.int .i64),.val 19 (.int .i64),.var 0 Kq40 false,.var 1 Kq40 false] 2 [(.ret,[.val 6 (.int .u64),.fix 7 (.ptr 1 [] Kq40),.val 8 (.int .i64),.var 1 Kq40 false]),(.exit 0,[.fix 3 (.ptr 0 [] Kq40),.fix 7 (.ptr 1 [] Kq40),.var 0 Kq40 false,.var 1 Kq40 false])] L
def e296 (F314:zaj) (F315:zai) (F316:zah) (L4:Lg):=sE 0 43 [] [en314 F314,en315 F315,en316 F316] [Ye L4]
def zhj (F315:zai) (F316:zah) (R:Type):zp5 (zp5 (Option R)→zzx R):=fun x1 x2 x3 x4 x5 kc k0 k1=>
let v6:=decide (x3<x2);(match v6 with
|true=>F316 R x1 fun y7=>
F315 R x4 y7 fun y8 y9 y10=>
let v11:=y10 !=0;(match v11 with
|true=>k0 (0:Int) y10 x4
|false=>let v12:=decide (y8<x1);(match v12 with
|true=>k0 y8 (0:Int) y9
|false=>let v13:=IntKind.i64.wrap (x3+1);kc x1 x2 v13 y9 x5))
|false=>k1 x4 x5)
theorem q296_4 (F314:zaj) (F315:zai) (F316:zah) (L4:Lg):LEQ (Ye L4) (e296 F314 F315 F316 L4) Tryz.f296 (zhj F315 F316):=fun _ _ _ _=>by kernel_rfl
def O7:Nat→Lg
 | 0=>fun _ _ _ _ _ _ _ _=>none
 | n+1=>fun R x1 x2 x3 x4 x5 k0 k1=>zhj F315 F316 R x1 x2 x3 x4 x5 (fun x1 x2 x3 x4 x5=>O7 n R x1 x2 x3 x4 x5 k0 k1) k0 k1
def p296 (F314:zaj) (L4:Lg):zar:=fun R a0 a1 a2 k=>
F314 R a0 a1 a2 fun y1=>
(match (!y1) with
|true=>k (0:Int) a0 (1:Int)
|false=>L4 R a1 a2 (0:Int) a0 ((0:Int),([]:LI),(0:Int),(List.replicate 32 (0:Int)),(0:Int),(0:Int),()) (fun x2 x3 x4=>
k x2 x4 x3) (fun x5 x6=>
k (0:Int) x5 (9:Int)))
theorem q296 (F314:zaj) (F315:zai) (F316:zah) (L4:Lg):EQ (zvc (p296 F314 L4)) (e296 F314 F315 F316 L4) Tryz.f296 [(.tmp 6,32,false),(.cell 7 225,225,false),(.tmp 8,40,false)]:=fun _ _ _=>by kernel_rfl
def F296:zar:=p296 F314 (O7 FUEL)
theorem zth:LKP (Ye (O7 FUEL)) 0 43 4 Tryz.f296:=ST.lok (q296_4 F314 F315 F316 (O7 FUEL)) (Aa ok314 (Aa ok315 (Aa ok316 Ab))) [] trivial
theorem ok296:OKP (zvc F296):=ST.ok1 (q296 F314 F315 F316 (O7 FUEL)) (Aa ok314 (Aa ok315 (Aa ok316 Ab))) Tryz.func296 [4] ⟨⟨_,rfl,zth⟩,trivial⟩
end Go.PG
end
