/- A part of the proof; no condition of its own. -/
import Derived.Test.YtlbchnapmipbhaaGreatDoorXF4
import Derived.Shelf.Strings.Builder1
import Derived.Shelf.Strings.Builder2
import Derived.Shelf.Strings.OnBuilder
import Derived.Shelf.Strconv.Itoa1
import Derived.Shelf.LaysM
import Derived.Shelf.Strconv.Itoa2
import Derived.Shelf.Strconv.Itoa3
import Derived.WalkKit
import Derived.BigCall
import Derived.Test.YtlbchnapmipbhaaGreatDoorProg
import Derived.Lib.Walk
import Derived.Lib.ItoaMem
import Derived.Lib.AppendIntMem
import Derived.BigGuard
import Derived.KernelRfl
set_option linter.unusedVariables false
set_option linter.unusedSimpArgs false
set_option linter.unusedSectionVars false
open Go.IntKind (i64 u64 u8 u32 u16)
open List (replicate)
theorem Cv:type_of% @_root_.Go.Lib.decDigits_length:=@_root_.Go.Lib.decDigits_length
theorem Cw:type_of% @_root_.List.getElem_mem:=@_root_.List.getElem_mem
theorem Cx:type_of% @_root_.List.take_succ_eq_append_getElem:=@_root_.List.take_succ_eq_append_getElem
noncomputable section
namespace Go.Proofs
open Go.Shelf
def Tryz.lays169_ren:Go.Shelf.Ren:=⟨fun | 169=>44 | n=>n,fun | 70=>82 | 9=>9 | 0=>0 | 72=>84 | 37=>25 | 127=>118 | 3=>3 | 5=>5 | n=>n,fun | n=>n⟩
theorem Tryz.lays169:Go.Proofs.Lays.n169 Tryz.prog Tryz.lays169_ren:={
 mixed:=by kernel_rfl
 f169:=Tryz.func44.trans (Ac some (by kernel_rfl))
 t0:=Tryz.underlying0
 a0:=Tryz.isAgg0
 z0:=Tryz.sizeOf0
 v0:=Tryz.zeroValue0
 t3:=Tryz.underlying3
 a3:=Tryz.isAgg3
 z3:=Tryz.sizeOf3
 v3:=Tryz.zeroValue3
 t9:=Tryz.underlying9
 a9:=Tryz.isAgg9
 z9:=Tryz.sizeOf9
 v9:=Tryz.zeroValue9
 t37:=Tryz.underlying25
 a37:=Tryz.isAgg25
 z37:=Tryz.sizeOf25
 v37:=Tryz.zeroValue25
 t70:=Tryz.underlying82
 a70:=Tryz.isAgg82
 z70:=Tryz.sizeOf82
 v70:=Tryz.zeroValue82
 t72:=Tryz.underlying84
 a72:=Tryz.isAgg84
 z72:=Tryz.sizeOf84
 v72:=Tryz.zeroValue84
 t127:=Tryz.underlying118
 a127:=Tryz.isAgg118
 z127:=Tryz.sizeOf118
 v127:=Tryz.zeroValue118}
theorem Tryz.Builder_Extra_169:Builder.Extra Tryz.prog Tryz.lays169_ren:={
 sizeBuilder:=by kernel_rfl
 liesBuilder:=by kernel_rfl
 t5:=Tryz.underlying5
 a5:=Tryz.isAgg5
 z5:=Tryz.sizeOf5
 v5:=Tryz.zeroValue5
 infoByte:=by kernel_rfl
 cellsByte:=by kernel_rfl
 sizeByte:=by kernel_rfl
 neB5:=by decide}
open Go.RowKit in
theorem Tryz.Builder_String_any (B b:Nat) (l:List UInt8) (w:World) (h:Lib.IsBuilder 84 5 B b (Lib.byteCells l) w) (hBw:B<=w.heap.size):
  Calls Tryz.prog 44 #[.pointer (some ⟨b,0,none⟩)] w λe w'=>e=.returned (.string ⟨l.toArray⟩)/\Below B w w':=Any.Builder_String_any Tryz.lays169 Tryz.Builder_Extra_169 B b l w h hBw
def Tryz.lays156_ren:Go.Shelf.Ren:=⟨fun | 156=>39 | 167=>67 | 165=>65 | 166=>43 | 169=>44 | 240=>68 | 241=>92 | 276=>97 | 277=>140 | n=>n,fun | 31=>81 | 9=>9 | 3=>3 | 4=>4 | 0=>0 | 20=>20 | 72=>84 | 76=>87 | 70=>82 | 37=>25 | 75=>86 | 127=>118 | 164=>166 | 5=>5 | 80=>89 | n=>n,fun | n=>n⟩
theorem Tryz.lays156:Go.Proofs.Lays.n156 Tryz.prog Tryz.lays156_ren:={
 mixed:=by kernel_rfl
 f156:=Tryz.func39.trans (Ac some (by kernel_rfl))
 f165:=Tryz.func65.trans (Ac some (by kernel_rfl))
 f166:=Tryz.func43.trans (Ac some (by kernel_rfl))
 f169:=Tryz.func44.trans (Ac some (by kernel_rfl))
 f240:=Tryz.func68.trans (Ac some (by kernel_rfl))
 f241:=Tryz.func92.trans (Ac some (by kernel_rfl))
 f276:=Tryz.func97.trans (Ac some (by kernel_rfl))
 f277:=Tryz.func140.trans (Ac some (by kernel_rfl))
 t0:=Tryz.underlying0
 a0:=Tryz.isAgg0
 z0:=Tryz.sizeOf0
 v0:=Tryz.zeroValue0
 t3:=Tryz.underlying3
 a3:=Tryz.isAgg3
 z3:=Tryz.sizeOf3
 v3:=Tryz.zeroValue3
 t4:=Tryz.underlying4
 a4:=Tryz.isAgg4
 z4:=Tryz.sizeOf4
 v4:=Tryz.zeroValue4
 t9:=Tryz.underlying9
 a9:=Tryz.isAgg9
 z9:=Tryz.sizeOf9
 v9:=Tryz.zeroValue9
 t20:=Tryz.underlying20
 a20:=Tryz.isAgg20
 z20:=Tryz.sizeOf20
 v20:=Tryz.zeroValue20
 t31:=Tryz.underlying81
 a31:=Tryz.isAgg81
 z31:=Tryz.sizeOf81
 v31:=Tryz.zeroValue81
 t37:=Tryz.underlying25
 a37:=Tryz.isAgg25
 z37:=Tryz.sizeOf25
 v37:=Tryz.zeroValue25
 t70:=Tryz.underlying82
 a70:=Tryz.isAgg82
 z70:=Tryz.sizeOf82
 v70:=Tryz.zeroValue82
 t72:=Tryz.underlying84
 a72:=Tryz.isAgg84
 z72:=Tryz.sizeOf84
 v72:=Tryz.zeroValue84
 t75:=Tryz.underlying86
 a75:=Tryz.isAgg86
 z75:=Tryz.sizeOf86
 v75:=Tryz.zeroValue86
 t76:=Tryz.underlying87
 a76:=Tryz.isAgg87
 z76:=Tryz.sizeOf87
 v76:=Tryz.zeroValue87
 t127:=Tryz.underlying118
 a127:=Tryz.isAgg118
 z127:=Tryz.sizeOf118
 v127:=Tryz.zeroValue118
 t164:=Tryz.underlying166
 a164:=Tryz.isAgg166
 z164:=Tryz.sizeOf166
 v164:=Tryz.zeroValue166}
theorem Tryz.Builder_Extra_156:Builder.Extra Tryz.prog Tryz.lays156_ren:={
 sizeBuilder:=by kernel_rfl
 liesBuilder:=by kernel_rfl
 t5:=Tryz.underlying5
 a5:=Tryz.isAgg5
 z5:=Tryz.sizeOf5
 v5:=Tryz.zeroValue5
 infoByte:=by kernel_rfl
 cellsByte:=by kernel_rfl
 sizeByte:=by kernel_rfl
 neB5:=by decide}
open Go.RowKit in
theorem Tryz.strings_Join_none (a:Option Addr) (c:Nat) (sep:ByteArray) (w:World):
  Calls Tryz.prog 39 #[.slice a 0 c,.string sep] w λe w'=>e=.returned (.string ⟨#[]⟩)/\w'=w:=Any.strings_Join_none Tryz.lays156 Tryz.Builder_Extra_156 a c sep w
open Go.RowKit in
theorem Tryz.strings_Join (bk o c:Nat) (xs:List ByteArray) (sep:ByteArray) (w:World) (hcells:∀(j:Nat) x,xs[j]?=some x->w.cell? ⟨bk,o+j,none⟩=some (.string x)) (hbk:bk<w.heap.size) (hN:xs.length<=140737488355328) (hcap:xs.length<=c) (hlen:(Lib.join (xs.map (·.data.toList)) sep.data.toList).length<=140737488355328):
  Calls Tryz.prog 39 #[.slice (some ⟨bk,o,none⟩) xs.length c,.string sep] w λe w'=>e=.returned (.string ⟨(Lib.join (xs.map (·.data.toList)) sep.data.toList).toArray⟩)/\Below w.heap.size w w':=Any.strings_Join Tryz.lays156 Tryz.Builder_Extra_156 bk o c xs sep w hcells hbk hN hcap hlen
def Tryz.lays283_ren:Go.Shelf.Ren:=⟨fun | 283=>93 | n=>n,fun | 3=>3 | 9=>9 | 4=>4 | n=>n,fun | n=>n⟩
theorem Tryz.lays283:Go.Proofs.Lays.n283 Tryz.prog Tryz.lays283_ren:={
 mixed:=by kernel_rfl
 f283:=Tryz.func93.trans (Ac some (by kernel_rfl))
 t3:=Tryz.underlying3
 a3:=Tryz.isAgg3
 z3:=Tryz.sizeOf3
 v3:=Tryz.zeroValue3
 t4:=Tryz.underlying4
 a4:=Tryz.isAgg4
 z4:=Tryz.sizeOf4
 v4:=Tryz.zeroValue4
 t9:=Tryz.underlying9
 a9:=Tryz.isAgg9
 z9:=Tryz.sizeOf9
 v9:=Tryz.zeroValue9}
open Go.Lib in
theorem Tryz.internal_strconv_small (i:Nat) (h:i<100) (w:World):
  Calls Tryz.prog 93 #[.int .i64 i] w λe w'=>e=.returned (.string ⟨(Lib.decDigits i).toArray⟩)/\w'=w:=Any.internal_strconv_small Tryz.lays283 i h w
def Tryz.laysM284_ren:Go.Shelf.Ren:=⟨fun | 284=>94 | 129=>142 | 317=>141 | 318=>143 | n=>n,fun | 53=>32 | 3=>3 | 212=>205 | 0=>0 | 4=>4 | 46=>117 | 5=>5 | 9=>9 | n=>n,fun | 17=>0 | n=>n⟩
theorem Tryz.laysM284:Go.Proofs.LaysM.n284 Tryz.prog Tryz.laysM284_ren:={
 mixed:=by kernel_rfl
 f129:=Tryz.func142.trans (Ac some (by kernel_rfl))
 f284:=Tryz.func94.trans (Ac some (by kernel_rfl))
 f317:=Tryz.func141.trans (Ac some (by kernel_rfl))
 f318:=Tryz.func143.trans (Ac some (by kernel_rfl))
 t0:=Tryz.underlying0
 a0:=Tryz.isAgg0
 z0:=Tryz.sizeOf0
 v0:=Tryz.zeroValue0
 t3:=Tryz.underlying3
 a3:=Tryz.isAgg3
 z3:=Tryz.sizeOf3
 v3:=Tryz.zeroValue3
 t4:=Tryz.underlying4
 a4:=Tryz.isAgg4
 z4:=Tryz.sizeOf4
 v4:=Tryz.zeroValue4
 t5:=Tryz.underlying5
 a5:=Tryz.isAgg5
 z5:=Tryz.sizeOf5
 v5:=Tryz.zeroValue5
 t9:=Tryz.underlying9
 a9:=Tryz.isAgg9
 z9:=Tryz.sizeOf9
 v9:=Tryz.zeroValue9
 t46:=Tryz.underlying117
 a46:=Tryz.isAgg117
 z46:=Tryz.sizeOf117
 v46:=Tryz.zeroValue117
 t53:=Tryz.underlying32
 a53:=Tryz.isAgg32
 z53:=Tryz.sizeOf32
 v53:=Tryz.zeroValue32
 t212:=Tryz.underlying205
 a212:=Tryz.isAgg205
 z212:=Tryz.sizeOf205
 v212:=Tryz.zeroValue205
 g17:=by kernel_rfl
 i0:=by kernel_rfl
 i3:=by kernel_rfl
 i4:=by kernel_rfl
 i5:=by kernel_rfl
 i9:=by kernel_rfl
 i46:=by kernel_rfl
 i53:=by kernel_rfl
 i212:=by kernel_rfl
 m17:=by kernel_rfl}
open Go.Lib in
theorem Tryz.internal_strconv_numDigits (u:Nat) (h1:1<=u) (h2:u<18446744073709551616) (w:World) (htab:Lib.TabIs Tryz.prog w "internal/strconv.uint64pow10" .u64 Lib.pow10Tab):
  Calls Tryz.prog 94 #[.int .u64 u] w λe w'=>e=.returned (.int .i64 (Lib.nDigits u))/\w'=w:=Any.internal_strconv_numDigits Tryz.laysM284 u h1 h2 w htab
def Tryz.lays285_ren:Go.Shelf.Ren:=⟨fun | 285=>95 | n=>n,fun | 37=>25 | 53=>32 | 3=>3 | 4=>4 | 51=>47 | 9=>9 | 5=>5 | 0=>0 | n=>n,fun | n=>n⟩
theorem Tryz.lays285:Go.Proofs.Lays.n285 Tryz.prog Tryz.lays285_ren:={
 mixed:=by kernel_rfl
 f285:=Tryz.func95.trans (Ac some (by kernel_rfl))
 t0:=Tryz.underlying0
 a0:=Tryz.isAgg0
 z0:=Tryz.sizeOf0
 v0:=Tryz.zeroValue0
 t3:=Tryz.underlying3
 a3:=Tryz.isAgg3
 z3:=Tryz.sizeOf3
 v3:=Tryz.zeroValue3
 t4:=Tryz.underlying4
 a4:=Tryz.isAgg4
 z4:=Tryz.sizeOf4
 v4:=Tryz.zeroValue4
 t5:=Tryz.underlying5
 a5:=Tryz.isAgg5
 z5:=Tryz.sizeOf5
 v5:=Tryz.zeroValue5
 t9:=Tryz.underlying9
 a9:=Tryz.isAgg9
 z9:=Tryz.sizeOf9
 v9:=Tryz.zeroValue9
 t37:=Tryz.underlying25
 a37:=Tryz.isAgg25
 z37:=Tryz.sizeOf25
 v37:=Tryz.zeroValue25
 t51:=Tryz.underlying47
 a51:=Tryz.isAgg47
 z51:=Tryz.sizeOf47
 v51:=Tryz.zeroValue47
 t53:=Tryz.underlying32
 a53:=Tryz.isAgg32
 z53:=Tryz.sizeOf32
 v53:=Tryz.zeroValue32}
open Go.RowKit Go.Sort Go.Lib in
theorem Tryz.internal_strconv_formatBase10 (blk off cap:Nat) (u:Nat) (d:Array UInt8) (w:World) (hH:Holds (λ(b:UInt8)=>Value.int .u8 (b.toNat:Int)) w blk off d) (hu:u<10^d.size) (hu64:u<18446744073709551616) (hsz:d.size<4611686018427387904):
  Calls Tryz.prog 95 #[.slice (some ⟨blk,off,none⟩) d.size cap,.int .u64 u] w λe w'=>
   e=.returned (.tuple #[])/\∃(n v':Nat) (dk:Array UInt8),w'=(putRow (λ(b:UInt8)=>Value.int .u8 (b.toNat:Int)) w blk off dk).drewN n/\FmtInv d.size u 0 v' dk:=Any.internal_strconv_formatBase10 Tryz.lays285 blk off cap u d w hH hu hu64 hsz
def Tryz.laysM171_ren:Go.Shelf.Ren:=⟨fun | 171=>38 | 243=>64 | 246=>91 | 283=>93 | 284=>94 | 285=>95 | 286=>96 | 129=>142 | 317=>141 | 318=>143 | 319=>144 | 320=>145 | 337=>193 | 338=>194 | n=>n,fun | 3=>3 | 9=>9 | 2=>2 | 4=>4 | 171=>161 | 0=>0 | 53=>32 | 37=>25 | 5=>5 | 173=>164 | 212=>205 | 51=>47 | 20=>20 | 213=>206 | 46=>117 | 232=>23 | 233=>191 | n=>n,fun | 17=>0 | 18=>2 | 19=>3 | n=>n⟩
theorem Tryz.laysM171:Go.Proofs.LaysM.n171 Tryz.prog Tryz.laysM171_ren:={
 mixed:=by kernel_rfl
 f129:=Tryz.func142.trans (Ac some (by kernel_rfl))
 f171:=Tryz.func38.trans (Ac some (by kernel_rfl))
 f243:=Tryz.func64.trans (Ac some (by kernel_rfl))
 f246:=Tryz.func91.trans (Ac some (by kernel_rfl))
 f283:=Tryz.func93.trans (Ac some (by kernel_rfl))
 f284:=Tryz.func94.trans (Ac some (by kernel_rfl))
 f285:=Tryz.func95.trans (Ac some (by kernel_rfl))
 f286:=Tryz.func96.trans (Ac some (by kernel_rfl))
 f317:=Tryz.func141.trans (Ac some (by kernel_rfl))
 f318:=Tryz.func143.trans (Ac some (by kernel_rfl))
 f319:=Tryz.func144.trans (Ac some (by kernel_rfl))
 f320:=Tryz.func145.trans (Ac some (by kernel_rfl))
 f337:=Tryz.func193.trans (Ac some (by kernel_rfl))
 f338:=Tryz.func194.trans (Ac some (by kernel_rfl))
 t0:=Tryz.underlying0
 a0:=Tryz.isAgg0
 z0:=Tryz.sizeOf0
 v0:=Tryz.zeroValue0
 t2:=Tryz.underlying2
 a2:=Tryz.isAgg2
 z2:=Tryz.sizeOf2
 v2:=Tryz.zeroValue2
 t3:=Tryz.underlying3
 a3:=Tryz.isAgg3
 z3:=Tryz.sizeOf3
 v3:=Tryz.zeroValue3
 t4:=Tryz.underlying4
 a4:=Tryz.isAgg4
 z4:=Tryz.sizeOf4
 v4:=Tryz.zeroValue4
 t5:=Tryz.underlying5
 a5:=Tryz.isAgg5
 z5:=Tryz.sizeOf5
 v5:=Tryz.zeroValue5
 t9:=Tryz.underlying9
 a9:=Tryz.isAgg9
 z9:=Tryz.sizeOf9
 v9:=Tryz.zeroValue9
 t20:=Tryz.underlying20
 a20:=Tryz.isAgg20
 z20:=Tryz.sizeOf20
 v20:=Tryz.zeroValue20
 t37:=Tryz.underlying25
 a37:=Tryz.isAgg25
 z37:=Tryz.sizeOf25
 v37:=Tryz.zeroValue25
 t46:=Tryz.underlying117
 a46:=Tryz.isAgg117
 z46:=Tryz.sizeOf117
 v46:=Tryz.zeroValue117
 t51:=Tryz.underlying47
 a51:=Tryz.isAgg47
 z51:=Tryz.sizeOf47
 v51:=Tryz.zeroValue47
 t53:=Tryz.underlying32
 a53:=Tryz.isAgg32
 z53:=Tryz.sizeOf32
 v53:=Tryz.zeroValue32
 t171:=Tryz.underlying161
 a171:=Tryz.isAgg161
 z171:=Tryz.sizeOf161
 v171:=Tryz.zeroValue161
 t173:=Tryz.underlying164
 a173:=Tryz.isAgg164
 z173:=Tryz.sizeOf164
 v173:=Tryz.zeroValue164
 t212:=Tryz.underlying205
 a212:=Tryz.isAgg205
 z212:=Tryz.sizeOf205
 v212:=Tryz.zeroValue205
 t213:=Tryz.underlying206
 a213:=Tryz.isAgg206
 z213:=Tryz.sizeOf206
 t232:=Tryz.underlying23
 a232:=Tryz.isAgg23
 z232:=Tryz.sizeOf23
 v232:=Tryz.zeroValue23
 t233:=Tryz.underlying191
 a233:=Tryz.isAgg191
 z233:=Tryz.sizeOf191
 v233:=Tryz.zeroValue191
 g17:=by kernel_rfl
 g18:=by kernel_rfl
 g19:=by kernel_rfl
 i0:=by kernel_rfl
 i2:=by kernel_rfl
 i3:=by kernel_rfl
 i4:=by kernel_rfl
 i5:=by kernel_rfl
 i9:=by kernel_rfl
 i20:=by kernel_rfl
 i37:=by kernel_rfl
 i46:=by kernel_rfl
 i51:=by kernel_rfl
 i53:=by kernel_rfl
 i171:=by kernel_rfl
 i173:=by kernel_rfl
 i212:=by kernel_rfl
 i232:=by kernel_rfl
 i233:=by kernel_rfl
 m17:=by kernel_rfl
 m18:=by kernel_rfl
 m19:=by kernel_rfl}
open Go.RowKit Go.Sort Go.Lib in
theorem Tryz.strconv_Itoa (n:Int) (h0: -9223372036854775808<=n) (h1:n<=9223372036854775807) (w:World) (htab:Lib.TabIs Tryz.prog w "internal/strconv.uint64pow10" .u64 Lib.pow10Tab):
  Calls Tryz.prog 38 #[.int .i64 n] w λe w'=>e=.returned (.string ⟨(Lib.itoa n).toArray⟩)/\∃k os,w'=grow (w.drewN k) os:=Any.strconv_Itoa Tryz.laysM171 n h0 h1 w htab
theorem Tryz.lays166:Go.Proofs.Lays.n166 Tryz.prog Tryz.lays156_ren:={Tryz.lays156 with}
theorem Tryz.lays167:Go.Proofs.Lays.n167 Tryz.prog Tryz.lays156_ren:={Tryz.lays156 with f167:=Tryz.func67.trans (Ac some (by kernel_rfl)),t5:=Tryz.underlying5,a5:=Tryz.isAgg5,z5:=Tryz.sizeOf5,v5:=Tryz.zeroValue5}
open Go.RowKit in
theorem Tryz.Builder_WriteByte (B b:Nat) (bs:List Value) (c:Int) (w:World) (h:Lib.IsBuilder 84 5 B b bs w) (hlen:bs.length+1<=140737488355328) (hBw:B<=w.heap.size):
  Calls Tryz.prog 67 #[.pointer (some ⟨b,0,none⟩),.int .u8 c] w λe w'=>e=.returned .nilIface/\(Lib.BuilderAt 84 5 B b (.pointer (some ⟨b,0,none⟩)) (bs++[.int .u8 c]) w'/\Below B w w'):=Any.Builder_WriteByte Tryz.lays167 Tryz.Builder_Extra_156 B b bs c w h hlen hBw
open Go.RowKit in
theorem Tryz.Builder_WriteString (B b:Nat) (bs:List Value) (s:ByteArray) (w:World) (h:Lib.IsBuilder 84 5 B b bs w) (hlen:bs.length+s.size<=140737488355328) (hBw:B<=w.heap.size):
  Calls Tryz.prog 43 #[.pointer (some ⟨b,0,none⟩),.string s] w λe w'=>e=.returned (.tuple #[.int .i64 s.size,.nilIface])/\(Lib.BuilderAt 84 5 B b (.pointer (some ⟨b,0,none⟩)) (bs++Lib.strCells s) w'/\Below B w w'):=Any.Builder_WriteString Tryz.lays166 Tryz.Builder_Extra_156 B b bs s w h hlen hBw
end Go.Proofs
namespace Go.Proofs
open Go.Shelf Go.RowKit Go.Sort Go.Lib
theorem Tryz.below_grow (w:World) (os:Array Obj) (k:Nat):Below w.heap.size w ((grow w os).drewN k):=
 ⟨rfl,rfl,rfl,by simp [World.drewN,grow],λj hj=>by simp [World.drewN,grow,Cr hj]⟩
theorem Tryz.below_drew_grow (w:World) (os:Array Obj) (k:Nat):Below w.heap.size w (grow (w.drewN k) os):=
 ⟨rfl,rfl,rfl,by simp [World.drewN,grow],λj hj=>by simp [World.drewN,grow,Cr hj]⟩
set_option maxHeartbeats 6400000 in
set_option maxRecDepth 100000 in
theorem Tryz.internal_strconv_FormatUint (u:Nat) (hu64:u<18446744073709551616) (w:World) (htab:Lib.TabIs Tryz.prog w "internal/strconv.uint64pow10" .u64 Lib.pow10Tab):
  Calls Tryz.prog 66 #[.int .u64 u,.int .i64 10] w λe w'=>e=.returned (.string ⟨(Lib.decDigits u).toArray⟩)/\Below w.heap.size w w':=by
 by_cases hs:u<100
 ·go_enter Tryz.func66,Tryz.ntmps66
  go_wp2_with (go_at_call 93; refine (Tryz.internal_strconv_small u hs _).mono ?_; rintro e w' ⟨rfl,rfl⟩)
  go_ret
  exact ⟨rfl,Below.refl _ _⟩
 ·have hu1:1<=u:=by omega
  have hnd20:Lib.nDigits u<=20:=by have:=Lib.numDigits_eq u hu1 hu64; split at this<;>omega
  have hal:Tryz.prog.arrayLen 161=24:=by simp [Program.arrayLen,Tryz.underlying161]
  have hsl1:∀W,(Instr.sliceAt 161 (.pointer (some ⟨w.heap.size,0,none⟩)) none (some (.int .i64 (Lib.nDigits u:Int))) none).run Tryz.prog W=.ok (.slice (some ⟨w.heap.size,0,none⟩) (Lib.nDigits u) 24) W:=λW=>by
   rw [run_sliceAt_array_h W 161 ⟨w.heap.size,0,none⟩ (by simp [Program.arrayLen,Program.elem,Tryz.underlying161]) .i64 (Lib.nDigits u:Int) (by omega) (by rw [hal]; omega)]
   go_simp
  have hH0:=Lib.holds_zero0 w 161 (Lib.nDigits u) (by omega);have hfmt:=Tryz.internal_strconv_formatBase10 w.heap.size 0 24 u (Array.replicate (Lib.nDigits u) 0) (w.alloc (.cells Lib.zeros24 161)) hH0 (by rw [Cp]; exact Lib.lt_pow_nDigits u) hu64 (by rw [Cp]; omega);rw [Cp] at hfmt;have HH0:=Lib.hid hH0;clear hH0 hal
  go_enter Tryz.func66,Tryz.ntmps66
  go_wp2_with (go_at_call 94; refine (Tryz.internal_strconv_numDigits u hu1 hu64 _ (Lib.tabIs_alloc htab _)).mono ?_; rintro e w' ⟨rfl,rfl⟩)
  go_at_call 95
  refine hfmt.mono ?_
  rintro e w' ⟨rfl,k,v',dk,rfl,hF⟩
  have hcv:(convert 25 9 (.slice (some ⟨w.heap.size,0,none⟩) (Lib.nDigits u) 24)).run Tryz.prog ((putRow (λ(b:UInt8)=>Value.int .u8 (b.toNat:Int)) (w.alloc (.cells Lib.zeros24 161)) w.heap.size 0 dk).drewN k)=.ok (.string ⟨(Lib.decDigits u).toArray⟩) ((putRow (λ(b:UInt8)=>Value.int .u8 (b.toNat:Int)) (w.alloc (.cells Lib.zeros24 161)) w.heap.size 0 dk).drewN k):=by
   have h:=run_convert_bytes_back (P:=Tryz.prog) ((putRow (λ(b:UInt8)=>Value.int .u8 (b.toNat:Int)) (w.alloc (.cells Lib.zeros24 161)) w.heap.size 0 dk).drewN k) 25 9 5 ⟨w.heap.size,0,none⟩ 24 (Lib.decDigits u) Tryz.underlying25 Tryz.underlying5 Tryz.underlying9 (λj hj=>by
    rw [Lib.row_is_numeral hF j hj,Lib.add_plain,World.cell?_drewN];exact cell?_putRow (λ(b:UInt8)=>Value.int .u8 (b.toNat:Int)) _ w.heap.size 0 _ dk HH0.out (by rw [hF.size,Cp]) j (by rw [hF.size]; rw [Cv] at hj; exact hj))
   rw [Cv] at h;exact h
  go_wp2
  go_ret
  refine ⟨rfl,?_⟩;rw [alloc_eq_grow];obtain ⟨os',_,e⟩:=putRow_grow_new (λ(b:UInt8)=>Value.int .u8 (b.toNat:Int)) w #[.cells Lib.zeros24 161] w.heap.size 0 dk (Al _);rw [e];exact Tryz.below_grow w os' k
set_option maxRecDepth 100000 in
theorem Tryz.strconv_FormatUint (u:Nat) (hu64:u<18446744073709551616) (w:World) (htab:Lib.TabIs Tryz.prog w "internal/strconv.uint64pow10" .u64 Lib.pow10Tab):
  Calls Tryz.prog 40 #[.int .u64 u,.int .i64 10] w λe w'=>e=.returned (.string ⟨(Lib.decDigits u).toArray⟩)/\Below w.heap.size w w':=by
 go_enter Tryz.func40,Tryz.ntmps40
 go_wp2_with (go_at_call 66; refine (Tryz.internal_strconv_FormatUint u hu64 _ htab).mono ?_; rintro e w' ⟨rfl,hb⟩)
 go_ret
 exact ⟨rfl,hb⟩
end Go.Proofs
namespace Go.Proofs
open Go.Shelf Go.RowKit Go.Sort Go.Lib
def hexD (n:Nat):UInt8:=[48,49,50,51,52,53,54,55,56,57,97,98,99,100,101,102].getD n 0
def hexT:List Int->List UInt8
 | []=>[]
 | x::l=>hexD (x.toNat/16)::hexD (x.toNat % 16)::hexT l
theorem Nm:∀l:List Int,(hexT l).length=2*l.length
 | []=>rfl
 | x::l=>by simp only [hexT,Af,Nm l]; omega
theorem R0:∀a b:List Int,hexT (a++b)=hexT a++hexT b
 | [],b=>rfl
 | x::a,b=>by simp only [A3,hexT,R0 a b]
theorem Tryz.index24 {cs:Array Value} {x:Int} {k:Nat} (hk:k<32) (h:cs[k]?=some (.int .u8 x)) (W:World):(Instr.index 24 (.agg cs) (.int .i64 k)).run Tryz.prog W=.ok (.int .u8 x) W:=by
 simp [Instr.index,asIntOf,Au Tryz.underlying24,Tryz.sizeOf5,part,Tryz.isAgg5,h];intro h32;omega
theorem zf4 (x:Int) (q:Nat) (hq:q<16) (hx:x.toNat=q) (h':x.toNat<ByteArray.size ⟨#[48,49,50,51,52,53,54,55,56,57,97,98,99,100,101,102]⟩):((⟨#[48,49,50,51,52,53,54,55,56,57,97,98,99,100,101,102]⟩:ByteArray)[x.toNat]'h')=hexD q:=by
 subst hx;generalize x.toNat=q at*
 match q,hq with
 | 0,_=>rfl
 | 1,_=>rfl
 | 2,_=>rfl
 | 3,_=>rfl
 | 4,_=>rfl
 | 5,_=>rfl
 | 6,_=>rfl
 | 7,_=>rfl
 | 8,_=>rfl
 | 9,_=>rfl
 | 10,_=>rfl
 | 11,_=>rfl
 | 12,_=>rfl
 | 13,_=>rfl
 | 14,_=>rfl
 | 15,_=>rfl
 | q+16,h=>exact absurd h (by omega)
theorem Rk {P:Program} {W:World} {t g:Nat} {cs:Array Value} {ty:TypeId} {fr:Nat×Nat} (h1:(isAgg t).run P W=.ok true W) (h2:(sizeOf t).run P W=.ok cs.size W) (hc:W.heap[g]?=some (.cells cs ty fr)):
  (Instr.loadAt t (.pointer (some ⟨g,0,none⟩))).run P W=.ok (.agg cs) W:=by
 have hcell:∀(j:Nat) v,cs.toList[j]?=some v->W.cell? ((⟨g,0,none⟩:Addr).add j)=some v:=λj v hj=>by
  rw [Lib.add_plain,Lib.cell_of_heap hc];simpa using hj
 have hlc:=run_loadCells_list (P:=P) W ⟨g,0,none⟩ cs.toList hcell;rw [Bt] at hlc;have hs:(Instr.sureAddr (.pointer (some (⟨g,0,none⟩:Addr)))).run P W=.ok ⟨g,0,none⟩ W:=rfl;simp only [Instr.loadAt,As,hs,Av,loadVar,h1,Ca,h2,hlc];simp
theorem zkx {P:Program} {o:Oper} {a:Act} {w:World} {K:Act->World->Prop} {Q:Exit->Act->World->Prop} {t:TypeId} {p:Operand} {v:Value} (hop:o.op=.load t p) (hr:(Instr.loadAt t (a.eval p)).run P w=.ok v w) (hk:K (a.put o.dst v) w):o.wp P a w K Q:=by
 have h:(execOp a.eval o).run P w=.ok (.value v) w:=by
  simp only [execOp,hop,As,hr,Av];rfl
 unfold Oper.wp;rw [h];exact hk
theorem Vs {P:Program} {ops:Array Oper} {o:Oper} {rest:List Oper} {a:Act} {w:World} {Q:Exit->Act->World->Prop} {t:TypeId} {p:Operand} {v:Value} (hg:o.guard=none) (hop:o.op=.load t p) (hr:(Instr.loadAt t (a.eval p)).run P w=.ok v w) (hk:wpList P ops Q rest (a.put o.dst v) w):wpList P ops Q (o::rest) a w:=
 wpList_plain hg λ_ hK=>zkx hop hr (hK _ _ hk)
theorem Tryz.load24 (cs:Array Value) (hcs:cs.size=32) (w:World) (o:Obj):(Instr.loadAt 24 (.pointer (some ⟨w.heap.size,0,none⟩))).run Tryz.prog ((w.alloc (.cells cs 24)).alloc o)=.ok (.agg cs) ((w.alloc (.cells cs 24)).alloc o):=by
 refine Rk (Tryz.isAgg24 _) (by rw [hcs]; exact Tryz.sizeOf24 _) (ty:=24) (fr:=(0,0)) ?_;have h1:((w.alloc (.cells cs 24)).alloc o).heap[w.heap.size]?=(w.alloc (.cells cs 24)).heap[w.heap.size]?:=Go.heap_alloc_old _ _ (by simp);rw [h1];exact Bk w _
set_option maxHeartbeats 4000000 in
set_option maxRecDepth 1000000 in
theorem Tryz.sha_Text (cs:Array Value) (hs:List Int) (hl:hs.length=32) (hc:∀i,i<32->cs[i]?=some (.int .u8 (hs.getD i 0))) (hcs:cs.size=32) (hu:∀x∈hs,0<=x/\x<256) (w:World):
  Calls Tryz.prog 42 #[.agg cs] w λe w'=>e=.returned (.string ⟨(hexT hs).toArray⟩)/\Below w.heap.size w w':=by
 have hld:=Lib.hid (Tryz.load24 cs hcs w);have HC:=Lib.hid hc;clear hc hcs
 go_enter Tryz.func42,Tryz.ntmps42
 go_wp2_with (refine Vs (t:=24) (p:=.tmp 1) rfl rfl (hld.out _) ?_)
 go_loopw [7] (λi wr=>∃k:Nat,k<=32/\i=.int .i64 k/\Lib.IsBuilder 84 5 (w.heap.size+1) (w.heap.size+1) (Lib.byteCells (hexT (hs.take k))) wr/\Below w.heap.size w wr) (λi _=>32 - (Lib.intOf i).toNat)
 case atStart=>
  have h0:=Lib.fresh_isBuilder 84 5 (w.alloc (.cells cs 24));have hz:(w.alloc (.cells cs 24)).heap.size=w.heap.size+1:=by simp
  rw [hz] at h0;exact ⟨0,by omega,rfl,by simpa [hexT,Lib.byteCells] using h0,((Below.refl _ w).alloc (Al _) _).alloc (by simp) _⟩
 case round=>
  obtain ⟨k,hk,rfl,hI,hb⟩:=hrel;have hsz:w.heap.size+1<=wr.heap.size:=by
   rcases hI with hI | hI<;>(obtain ⟨_,v,hbk,_⟩:=hI; have:=(Ap.1 hbk).1; omega)
  have hlen:(Lib.byteCells (hexT (hs.take k))).length<=64:=by
   rw [Lib.byteCells_length,Nm,A5]; omega
  by_cases hlt:k<32
  ·have h1:=HC.out k hlt
   have hx:0<=hs.getD k 0/\hs.getD k 0<256:=by
    have:k<hs.length:=by omega
    simpa [this] using hu _ (Cw this)
   have htk:hexT (hs.take (k+1))=hexT (hs.take k)++[hexD ((hs.getD k 0).toNat/16),hexD ((hs.getD k 0).toNat % 16)]:=by
    have hkl:k<hs.length:=by omega
    rw [Cx hkl,R0];simp [hexT,hkl]
   generalize hs.getD k 0=x at h1 hx htk;have hidx:∀W,(Instr.index 24 (.agg cs) (.int .i64 k)).run Tryz.prog W=.ok (.int .u8 x) W:=λW=>Tryz.index24 (by omega) h1 W
   go_wp2_with (go_at_call 67; refine (Tryz.Builder_WriteByte (w.heap.size+1) (w.heap.size+1) _ _ wr hI (by omega) hsz).mono ?_)
   rintro e W1 ⟨rfl,h2,b1⟩
   have hsz1:w.heap.size+1<=W1.heap.size:=Am hsz b1.size
   go_wp2_with (go_at_call 67; refine (Tryz.Builder_WriteByte (w.heap.size+1) (w.heap.size+1) _ _ W1 (Or.inr h2) (by rw [Ae,List.length_singleton]; omega) hsz1).mono ?_)
   rintro e W2 ⟨rfl,h3,b2⟩
   go_wp2
   go_roundw
   case rel=>
    refine ⟨k+1,by omega,by simp,Or.inr ?_,hb.trans ((b1.trans b2).mono (by omega))⟩;rw [zf4 (x/16) (x.toNat/16) (by omega) (by omega),zf4 (x % 16) (x.toNat % 16) (by omega) (by omega)] at h3;rw [htk,Lib.byteCells_append];rw [Ah] at h3;exact h3
   case measure=>simp [Lib.intOf]; omega
  ·have hk32:k=32:=by omega
   subst hk32;rw [A8 (by omega)] at hI
   go_wp2_with (go_at_call 44; refine (Tryz.Builder_String_any (w.heap.size+1) (w.heap.size+1) _ _ hI hsz).mono ?_)
   rintro e W1 ⟨rfl,b1⟩
   go_wp2
   go_ret
   refine ⟨?_,hb.trans (b1.mono (by omega))⟩;rfl
end Go.Proofs
namespace Go.Proofs
open Go.Shelf Go.RowKit Go.Sort Go.Lib
theorem NP {P:Program} {ops:Array Oper} {o:Oper} {rest:List Oper} {a:Act} {w w':World} {Q:Exit->Act->World->Prop} {t:TypeId} {p x:Operand} (hg:o.guard=none) (hop:o.op=.store t p x) (hr:(Instr.storeAt t (a.eval p) (a.eval x)).run P w=.ok () w') (hk:wpList P ops Q rest (a.put o.dst undef) w'):wpList P ops Q (o::rest) a w:=by
 refine wpList_plain hg λK hK=>?_
 have h:(execOp a.eval o).run P w=.ok .skip w':=by
  simp only [execOp,hop,As,hr,Av];rfl
 unfold Oper.wp;rw [h];exact hK _ _ hk
theorem Xp {P:Program} {W:World} {t:Nat} {z cs:Array Value} (hz:z.size=cs.size) (hone:∀u∈cs.toList,u.oneCell'=true) (hsz:∀W,(sizeOf t).run P W=.ok cs.size W):
  (Instr.storeAt t (.pointer (some ⟨W.heap.size,0,none⟩)) (.agg cs)).run P (W.alloc (.cells z t))=.ok () ((W.alloc (.cells z t)).setRow W.heap.size cs):=by
 have hs:∀W':World,(Instr.sureAddr (.pointer (some (⟨W.heap.size,0,none⟩:Addr)))).run P W'=.ok ⟨W.heap.size,0,none⟩ W':=λ_=>rfl
 have hst:=run_storeCells_at P W.heap.size 0 t cs.toList 0 z (W.alloc (.cells z t)) (Bk W _) (by simp; omega) hone;have e:(z.toList.take 0++cs.toList++z.toList.drop (0+cs.toList.length)).toArray=cs:=by
  rw [List.take_zero,A2,Bf,List.drop_eq_nil_of_le (by simp; omega),B0]
 simp only [Instr.storeAt,As,hs,Av,storeVar,Value.cells,hsz];simp only [Ax] at hst;rw [e] at hst;simp;rw [hst]
theorem AO {P:Program} {W:World} {t g off:Nat} {cs:List Value} {c:Array Value} {ty:TypeId} {fr:Nat×Nat} (h1:(isAgg t).run P W=.ok true W) (h2:(sizeOf t).run P W=.ok cs.length W) (hc:W.heap[g]?=some (.cells c ty fr))
  (hs:∀j v,cs[j]?=some v->c[off+j]?=some v):(Instr.loadAt t (.pointer (some ⟨g,off,none⟩))).run P W=.ok (.agg cs.toArray) W:=by
 have hcell:∀(j:Nat) v,cs[j]?=some v->W.cell? ((⟨g,off,none⟩:Addr).add j)=some v:=λj v hj=>by
  rw [Go.PG.add_eq,Aw W g (off+j) c ty fr hc];exact hs j v hj
 have hlc:=run_loadCells_list (P:=P) W ⟨g,off,none⟩ cs hcell;have hs:(Instr.sureAddr (.pointer (some (⟨g,off,none⟩:Addr)))).run P W=.ok ⟨g,off,none⟩ W:=rfl;simp only [Instr.loadAt,As,hs,Av,loadVar,h1,Ca,h2,hlc];simp
theorem Y0 {T e B b:Nat} {bs:List Value} {w w':World} (h:Lib.IsBuilder T e B b bs w) (hk:∀k,k<w.heap.size->w'.heap[k]?=w.heap[k]?):Lib.IsBuilder T e B b bs w':=by
 have key:∀p,Lib.BuilderAt T e B b p bs w->Lib.BuilderAt T e B b p bs w':=λp hp=>by
  have hlt:=hp.lt;obtain ⟨hB,v,hb,hown,hne⟩:=hp;refine ⟨hB,v,by rw [hk b hlt]; exact hb,?_,hne⟩;obtain ⟨h1,h2⟩:=hown;refine ⟨h1,h2.imp id ?_⟩
  rintro ⟨g,cap,cur,e1,e2,e3,e4⟩
  exact ⟨g,cap,cur,e1,e2,by rw [hk g (Ap.1 e3).1]; exact e3,e4⟩
 rcases h with h | h
 ·exact .inl (key _ h)
 ·exact .inr (key _ h)
section
open Go.PG
abbrev KAns:Kd:=.pair (.int .i64) (.pair (.int .u64) (.pair (.sl (.int .i64)) (.pair (.arr 32 (.int .u8)) .unit)))
def texJ:List ByteArray->List UInt8
 | []=>[]
 | s::l=>s.data.toList++10::texJ l
theorem Il:∀a b:List ByteArray,texJ (a++b)=texJ a++texJ b
 | [],b=>rfl
 | s::a,b=>by simp only [A3,texJ,Il a b,Ah]
theorem UM (a b:ByteArray):(a++b).data.toList=a.data.toList++b.data.toList:=by
 rw [ByteArray.data_append,B6]
theorem zgj (s:ByteArray):s.data.toList.length=s.size:=by rw [Bt]; rfl
theorem Xa {ts:List ByteArray} {k:Nat} (h:k<ts.length):texJ (ts.take (k+1))=texJ (ts.take k)++(ts.getD k ByteArray.empty).data.toList++[10]:=by
 rw [Cx h,Il,Ah];simp [texJ,h]
theorem NM:∀ts:List ByteArray,ts.length<=(texJ ts).length
 | []=>Al _
 | s::l=>by have:=NM l; simp only [texJ,Af,Ae]; omega
theorem zif (ts:List ByteArray) (k:Nat):(texJ (ts.take k)).length<=(texJ ts).length:=by
 have h:texJ ts=texJ (ts.take k)++texJ (ts.drop k):=by rw [<-Il,A4]
 rw [h,Ae];omega
set_option maxHeartbeats 4000000 in
set_option maxRecDepth 1000000 in
theorem Tryz.script_Texts (S:Nat->Prop) (w:World) (hS:ShOK S w) (l:List (KAns.T)) (ts:List ByteArray) (v:Value) (hv:VRd S w (.sl KAns) l v) (hlt:ts.length=l.length) (hT:∀(i:Nat) (h:i<l.length),Go.PG.Holds Tryz.prog 16 [.val KAns l[i]] [.val .str (ts.getD i ByteArray.empty)] [])
  (hlen:(texJ ts).length<=140737488355328):
  Calls Tryz.prog 18 #[v] w λe w'=>e=.returned (.string ⟨(texJ ts).toArray⟩)/\Below w.heap.size w w':=by
 obtain ⟨base,cap,rfl⟩:∃base cap,v=.slice base l.length cap:=by
  rcases VRd.sl.1 hv with ⟨rfl,rfl⟩ | ⟨g,off,cap,c,t,fr,rfl,_⟩ | ⟨a0,rfl,rfl⟩
  ·exact ⟨_,_,rfl⟩
  ·exact ⟨_,_,rfl⟩
  ·exact ⟨_,_,rfl⟩
 have hll:l.length<=140737488355328:=by have:=NM ts; omega
 have HV:=Lib.hid hv;have HT:=Lib.hid hT;clear hv hT
 go_enter Tryz.func18,Tryz.ntmps18
 go_wp2
 go_loopw [8] (λi wr=>∃k:Nat,k<=l.length/\i=.int .i64 k/\Lib.IsBuilder 84 5 w.heap.size w.heap.size (Lib.byteCells (texJ (ts.take k))) wr/\Below w.heap.size w wr) (λi _=>l.length - (Lib.intOf i).toNat)
 case atStart=>
  exact ⟨0,by omega,rfl,by simpa [texJ,Lib.byteCells] using Lib.fresh_isBuilder 84 5 w,(Below.refl _ w).alloc (Al _) _⟩
 case round=>
  obtain ⟨k,hk,rfl,hI,hb⟩:=hrel;have hsz:w.heap.size<=wr.heap.size:=hb.size
  by_cases hlt':k<l.length
  ·have hv:=HV.out
   obtain ⟨g,off,c,t,fr,rfl,hS1,hc,hr⟩:∃g off c t fr,base=some (⟨g,off,none⟩:Addr)/\S g/\w.heap[g]?=some (.cells c t fr)/\RdL (Rd S w KAns) l ((c.toList.drop off).take (l.length*35)):=by
    rcases VRd.sl.1 hv with ⟨h1,rfl⟩ | ⟨g,off,cap',c,t,fr,h1,_,h3,h4,h5⟩ | ⟨a0,h1,rfl⟩
    rotate_left 2
    ·simp at hlt'
    ·simp at hlt'
    ·cases h1
     exact ⟨g,off,c,t,fr,rfl,h3,h4,h5⟩
   have hkl:k<l.length:=by omega
   obtain ⟨c1,cs,c3,ee,hl1,hr2,_⟩:=RdL.nth (Rd.length KAns) k KAns.zero hr hkl;have hcl:cs.length=35:=Rd.length KAns _ cs hr2;have hone:∀u∈cs,u.oneCell'=true:=Rd.one KAns _ cs hr2;have hgw:∀b,S b->wr.heap[b]?=w.heap[b]?:=λb hb'=>hb.block b (hS.1 b hb')
   have hia:∀W,(Instr.indexAt 39 (.slice (some ⟨g,off,none⟩) l.length cap) (.int .i64 k)).run Tryz.prog W=.ok (.pointer (some ⟨g,off+k*35,none⟩)) W:=λW=>by
    simp [Instr.indexAt,asIntOf,Au Tryz.underlying39,Tryz.sizeOf52,Go.PG.add_eq];intro h;omega
   have hl1:=Lib.hid (AO (P:=Tryz.prog) (W:=wr) (t:=52) (off:=off+k*35) (Tryz.isAgg52 _) (by rw [hcl]; exact Tryz.sizeOf52 _) ((hgw g hS1).trans hc) (by
    intro j v hj;have h1:=G1 rfl (c:=c) (off:=off) (n:=l.length*35) (k*35+j) v;rw [ee] at h1;rw [Bn];refine h1 ?_;have e35:KAns.size=35:=rfl;rw [e35] at hl1;rw [Ah,Az (by omega),hl1,Nat.add_sub_cancel_left,List.getElem?_append_left (A0.1 hj).1];exact hj))
   have hst:=Lib.hid (λ(z:Array Value) (hz:z.size=35)=>Xp (P:=Tryz.prog) (W:=wr) (t:=52) (z:=z) (cs:=cs.toArray) (by simp [hz,hcl]) (by simpa using hone) (by intro W; simp only [Bi,hcl]; exact Tryz.sizeOf52 _));have e35:cs.toArray.size=35:=by simp [hcl]
   have hl2:=Lib.hid (λ(z:Array Value) (_:z.size=35)=>Rk (P:=Tryz.prog) (W:=(wr.alloc (.cells z 52)).setRow wr.heap.size cs.toArray) (t:=52) (g:=wr.heap.size) (cs:=cs.toArray) (ty:=52) (fr:=(0,0)) (Tryz.isAgg52 _) (by rw [e35]; exact Tryz.sizeOf52 _) (setRow_heap _ _ z _ 52 (0,0) (Bk wr _)));have hbn:∀z:Array Value,Below wr.heap.size wr ((wr.alloc (.cells z 52)).setRow wr.heap.size cs.toArray):=λz=>
    ⟨rfl,rfl,rfl,by rw [setRow_size]; simp,λj hj=>by rw [Aq _ _ _ _ (by omega)]; exact heap_alloc_old wr _ hj⟩
   have hts:(ts.getD k ByteArray.empty).size+1<=140737488355328/\(texJ (ts.take k)).length+((ts.getD k ByteArray.empty).size+1)<=140737488355328:=by
    have h1:=zif ts (k+1);rw [Xa (show k<ts.length by omega)] at h1;simp only [Ae,List.length_singleton,zgj] at h1;omega
   have htk:=Xa (show k<ts.length by omega);have hc16:=Lib.hid (λ(z:Array Value) (_:z.size=35)=>show Calls Tryz.prog 16 #[.agg cs.toArray] ((wr.alloc (.cells z 52)).setRow wr.heap.size cs.toArray) λe w'=>e=.returned (.string (ts.getD k ByteArray.empty))/\Below wr.heap.size wr w' from by
    have hb2:=hb.trans ((hbn z).mono hsz);have hs2:∀b,S b->S b/\((wr.alloc (.cells z 52)).setRow wr.heap.size cs.toArray).heap[b]?=w.heap[b]?:=λb hb'=>⟨hb',hb2.block b (hS.1 b hb')⟩
    have hSOK:ShOK S ((wr.alloc (.cells z 52)).setRow wr.heap.size cs.toArray):=⟨λb hb'=>Nat.lt_of_lt_of_le (hS.1 b hb') hb2.size,hS.2.mono hs2⟩
    have hk2:l.getD k KAns.zero=l[k]:=by simp [hkl]
    have hA:ArgsG S ((wr.alloc (.cells z 52)).setRow wr.heap.size cs.toArray) [.val KAns l[k]] [] [.agg cs.toArray]:=⟨_,_,rfl,⟨cs,by rw [<-hk2]; exact Rd.mono hs2 KAns _ cs hr2,rfl⟩,rfl,rfl⟩
    have hE:JL Tryz.prog 16 [.val KAns l[k]] [.val .str (ts.getD k ByteArray.empty)] []:=by
     rcases HT.out k hkl with hE | ⟨_,hV⟩
     ·exact hE
     ·obtain ⟨v,w',h1,_⟩:=hV _ S _ hSOK hA
      rw [Go.PG.enters Tryz.func16 (by kernel_rfl) (by kernel_rfl)] at h1;cases h1
    have:=hE.2 _ S [] [.agg cs.toArray] hSOK (by simp) hA;refine this.mono ?_;intro e w' he;cases e with
    | panicked _=>exact he.elim
    | outgrown=>exact he.elim
    | returned u=>
     obtain ⟨S',vs,gs,rfl,_,_,hfr,hres,_,_⟩:=he;obtain ⟨v1,vs',rfl,hv1,e1⟩:=hres;obtain ⟨rfl,_⟩:=e1;refine ⟨Ac Ending.returned (VRd.str.1 hv1),?_⟩;have hb3:Below ((wr.alloc (.cells z 52)).setRow wr.heap.size cs.toArray).heap.size _ w':=⟨hfr.os,hfr.tape,hfr.output,hfr.size,λk hk=>hfr.block k hk (λe he=>by cases he) id⟩
     exact (hbn z).trans (hb3.mono (hbn z).size))
   generalize ts.getD k ByteArray.empty=s at hts hc16 htk
   go_wp2_with (first | (refine Vs (t:=52) (p:=.tmp 10) rfl rfl hl1.out ?_) | (refine NP (t:=52) (p:=.tmp 5) (x:=.tmp 11) rfl rfl (hst.out _ rfl) ?_) | (refine Vs (t:=52) (p:=.tmp 5) rfl rfl (hl2.out _ rfl) ?_) | (go_at_call 16; refine (hc16.out _ rfl).mono ?_))
   rintro e W2 ⟨rfl,b2⟩
   have hI2:=Y0 hI (w':=W2) (λj hj=>b2.block j hj)
   go_wp2_with (go_at_call 43; refine (Tryz.Builder_WriteString w.heap.size w.heap.size _ _ W2 hI2 (by rw [Lib.byteCells_length,ByteArray.size_append]; show _+(_+1)<=_; omega) (Am hsz b2.size)).mono ?_)
   rintro e W3 ⟨rfl,h3,b3⟩
   go_wp2
   go_roundw
   case rel=>
    refine ⟨k+1,by omega,by simp,Or.inr ?_,(hb.trans (b2.mono hsz)).trans b3⟩;rw [htk,Ah,Lib.byteCells_append];rw [Lib.strCells_eq,UM] at h3;exact h3
   case measure=>simp [Lib.intOf]; omega
  ·have hkn:k=l.length:=by omega
   rw [A8 (by omega)] at hI;subst hkn
   go_wp2_with (go_at_call 44; refine (Tryz.Builder_String_any w.heap.size w.heap.size _ _ hI hsz).mono ?_)
   rintro e W1 ⟨rfl,b1⟩
   go_wp2
   go_ret
   exact ⟨rfl,hb.trans b1⟩
end
end Go.Proofs
namespace Go.PG
open Go.Proofs Go.RowKit
theorem zii:tabL=Lib.pow10Tab:=by decide+kernel
theorem HL {S:Nat->Prop} {w:World} (h:ShOK S w):Lib.TabIs Tryz.prog w "internal/strconv.uint64pow10" .u64 Lib.pow10Tab:=by
 obtain ⟨_,t,fr,hc⟩:=h.2 0 rfl;have hg:Tryz.prog.globalNamed "internal/strconv.uint64pow10"=some 0:=by kernel_rfl
 unfold Lib.TabIs World.var?;rw [hg,<-zii];show (match w.heap[0]? with | some (.cells cs _ _)=>some cs | _=>none)=_
 rw [hc]
theorem Tq {w w':World} (h:Below w.heap.size w w'):Ji w [] w':=⟨h.os,h.tape,h.output,h.size,λb hb _ _=>h.block b hb,λe he=>by cases he⟩
theorem K1 {f:FuncId} {az:List AV} {s:ByteArray} (hent:∀args w,(callFunc f args).run Tryz.prog w=.ok (.enter f args) w) (hpp:∀S w pp vs,ArgsG S w az pp vs->pp=[])
  (h:∀(w:World) (S:Nat->Prop) (vs:List Value),ShOK S w->ArgsG S w az [] vs->Calls Tryz.prog f vs.toArray w λe w'=>e=.returned (.string s)/\Below w.heap.size w w'):JL Tryz.prog f az [.val .str s] []:=by
 refine ⟨hent,λw S pp vs hS _ hA=>?_⟩;have:=hpp S w pp vs hA;subst this;refine (h w S vs hS hA).mono ?_
 rintro e w' ⟨rfl,hb⟩
 exact ⟨S,[.string s],[],rfl,λ_ h=>h,λb hb'=>⟨Nat.lt_of_lt_of_le (hS.1 b hb') hb.size,.inl hb'⟩,Tq hb,⟨.string s,[],rfl,VRd.str.2 rfl,rfl,rfl⟩,List.nodup_nil,rfl⟩
theorem OQ {k:Kd} {x:k.T}:∀S w pp vs,ArgsG S w [.val k x] pp vs->pp=[]:=λ_ _ _ _ h=>by
 obtain ⟨_,_,_,_,h2⟩:=h;exact h2.1
theorem OP {k k':Kd} {x:k.T} {y:k'.T}:∀S w pp vs,ArgsG S w [.val k x,.val k' y] pp vs->pp=[]:=λ_ _ _ _ h=>by
 obtain ⟨_,_,_,_,_,_,_,_,h2⟩:=h;exact h2.1
def SC (R:Type) (n:Int) (k:ByteArray->Option R):Option R:=match decide (-9223372036854775808<=n/\n<=9223372036854775807) with
 | true=>k ⟨(Lib.itoa n).toArray⟩
 | false=>none
theorem zk6:(eV 38 [(.int .i64)] [.str] SC).OK Tryz.prog:=by
 intro R x k r h;obtain ⟨n,u⟩:=x;have h':SC R n (λs=>k (s,()) ())=some r:=h;unfold SC at h';split at h'<;>try (cases h'; done)
 rename_i hd;obtain ⟨h0,h1⟩:=Bw hd;refine ⟨(⟨(Lib.itoa n).toArray⟩,()),(),.inl (K1 (az:=[.val (.int .i64) n]) (enters Tryz.func38 (by kernel_rfl) (by kernel_rfl)) OQ λw S vs hS hA=>?_),h'⟩;obtain ⟨v,vs',rfl,hv,_,rfl⟩:=hA;rw [VRd.int.1 hv];refine (Tryz.strconv_Itoa n h0 h1 w (HL hS)).mono ?_
 rintro e w' ⟨rfl,k,os,rfl⟩
 exact ⟨rfl,Tryz.below_drew_grow w os k⟩
def LO (R:Type) (n b:Int) (k:ByteArray->Option R):Option R:=match decide (0<=n/\n<18446744073709551616/\b=10) with
 | true=>k ⟨(Lib.decDigits n.toNat).toArray⟩
 | false=>none
theorem zld:(eV 40 [(.int .u64),(.int .i64)] [.str] LO).OK Tryz.prog:=by
 intro R x k r h;obtain ⟨n,b,u⟩:=x;have h':LO R n b (λs=>k (s,()) ())=some r:=h;unfold LO at h';split at h'<;>try (cases h'; done)
 rename_i hd;obtain ⟨h0,h1,rfl⟩:=Bw hd;refine ⟨(⟨(Lib.decDigits n.toNat).toArray⟩,()),(),.inl (K1 (az:=[.val (.int .u64) n,.val (.int .i64) 10]) (enters Tryz.func40 (by kernel_rfl) (by kernel_rfl)) OP λw S vs hS hA=>?_),h'⟩;obtain ⟨v,vs1,rfl,hv,v2,vs2,rfl,hv2,_,rfl⟩:=hA;rw [VRd.int.1 hv,VRd.int.1 hv2];have e:n=(Int.toNat n:Int):=(Int.toNat_of_nonneg h0).symm;have h3:(Int.toNat n:Int)<18446744073709551616:=by rw [<-e]; exact h1
 have:=Tryz.strconv_FormatUint (Int.toNat n) (by omega) w (HL hS);rw [<-e] at this;exact this
def SA (R:Type) (l:List ByteArray) (sep:ByteArray) (k:ByteArray->Option R):Option R:=match decide ((Lib.join (l.map (·.data.toList)) sep.data.toList).length<=140737488355328/\l.length<=140737488355328) with
 | true=>k ⟨(Lib.join (l.map (·.data.toList)) sep.data.toList).toArray⟩
 | false=>none
theorem zk3:(eV 39 [(.sl .str),.str] [.str] SA).OK Tryz.prog:=by
 intro R x k r h;obtain ⟨l,sep,u⟩:=x;have h':SA R l sep (λs=>k (s,()) ())=some r:=h;unfold SA at h';split at h'<;>try (cases h'; done)
 rename_i hd;obtain ⟨h0,h1⟩:=Bw hd;refine ⟨(⟨(Lib.join (l.map (·.data.toList)) sep.data.toList).toArray⟩,()),(),.inl (K1 (az:=[.val (.sl .str) l,.val .str sep]) (enters Tryz.func39 (by kernel_rfl) (by kernel_rfl)) OP λw S vs hS hA=>?_),h'⟩;obtain ⟨v,vs1,rfl,hv,v2,vs2,rfl,hv2,_,rfl⟩:=hA;rw [VRd.str.1 hv2];rcases VRd.sl.1 hv with ⟨rfl,rfl⟩ | ⟨g,off,cap,c,t,fr,rfl,hcap,hS1,hc,hr⟩ | ⟨a0,rfl,rfl⟩
 rotate_left 2
 ·refine (Tryz.strings_Join_none (some a0) 0 sep w).mono ?_
  rintro e w' ⟨rfl,rfl⟩
  exact ⟨rfl,Below.refl _ _⟩
 ·refine (Tryz.strings_Join_none none 0 sep w).mono ?_
  rintro e w' ⟨rfl,rfl⟩
  exact ⟨rfl,Below.refl _ _⟩
 ·refine Tryz.strings_Join g off cap l sep w (λj x hj=>?_) (hS.1 g hS1) h1 hcap h0
  rw [Aw w g (off+j) c t fr hc];have hjl:j<l.length:=(A0.1 hj).1;obtain ⟨c1,c2,c3,ee,hl1,hr2,_⟩:=RdL.nth (Rd.length .str) j ByteArray.empty hr hjl;have hx:l.getD j ByteArray.empty=x:=by rw [Br,hj]; rfl
  have h2:c2=[.string x]:=by rw [<-hx]; exact hr2
  subst h2;refine G1 rfl (c:=c) (off:=off) (n:=l.length*1) j _ ?_;have ee':(c.toList.drop off).take (l.length*1)=c1++[.string x]++c3:=ee;have hl1':c1.length=j*1:=hl1;rw [ee',Ah,Az (by omega)];have:j - c1.length=0:=by omega
  rw [this];rfl
def NL (R:Type) (h:List Int) (k:ByteArray->Option R):Option R:=match decide (h.length=32)&&h.all λx=>decide (0<=x/\x<256) with
 | true=>k ⟨(hexT h).toArray⟩
 | false=>none
theorem zie:(eV 42 [(.arr 32 (.int .u8))] [.str] NL).OK Tryz.prog:=by
 intro R x k r h;obtain ⟨hs,u⟩:=x;have h':NL R hs (λs=>k (s,()) ())=some r:=h;unfold NL at h';split at h'<;>try (cases h'; done)
 rename_i hd;rw [Ab,B9] at hd;have hl:=Bw hd.1;have hu:∀x∈hs,0<=x/\x<256:=λx hx=>Bw (hd.2 x hx)
 refine ⟨(⟨(hexT hs).toArray⟩,()),(),.inl (K1 (az:=[.val (.arr 32 (.int .u8)) hs]) (enters Tryz.func42 (by kernel_rfl) (by kernel_rfl)) OQ λw S vs hS hA=>?_),h'⟩;obtain ⟨v,vs',rfl,⟨cs,⟨_,hr⟩,rfl⟩,_,rfl⟩:=hA;have key:∀(l:List Int) (cs:List Value),RdL (λx cs=>cs=[Value.int .u8 x]) l cs->cs=l.map (Value.int .u8):=by
  intro l
  induction l with
  | nil=>intro cs h; exact h
  | cons x l ih=>
   intro cs h;obtain ⟨a,b,e,h1,h2⟩:=h;rw [e,h1,ih b h2];rfl
 have hcs:=key hs cs hr;subst hcs;exact Tryz.sha_Text _ hs hl (λi hi=>by simp [show i<hs.length by omega]) (by simp [hl]) hu w
def Lz (F:(R:Type)->KAns.T->(ByteArray->Option R)->Option R) (R:Type):List KAns.T->Nat->List ByteArray->(ByteArray->Option R)->Option R
 | [],_,ts,k=>k ⟨(texJ ts).toArray⟩
 | a::l,n,ts,k=>F R a λs=>match decide (n+s.size+1<=140737488355328) with
  | true=>Lz F R l (n+s.size+1) (ts++[s]) k
  | false=>none
theorem Re {F:(R:Type)->KAns.T->(ByteArray->Option R)->Option R} (hF:(eV 16 [KAns] [.str] F).OK Tryz.prog) {R:Type} {k:ByteArray->Option R} {r:R}:∀(l:List KAns.T) (n:Nat) (ts:List ByteArray),n=(texJ ts).length->Lz F R l n ts k=some r->
  ∃us:List ByteArray,us.length=l.length/\(∀(i:Nat) (h:i<l.length),Holds Tryz.prog 16 [.val KAns l[i]] [.val .str (us.getD i ByteArray.empty)] [])/\((texJ (ts++us)).length<=140737488355328\/us=[])/\k ⟨(texJ (ts++us)).toArray⟩=some r
 | [],n,ts,_,h=>⟨[],rfl,λi h=>absurd h (by simp),.inr rfl,by rw [B0]; exact h⟩
 | a::l,n,ts,hn,h=>by
  simp only [Lz] at h;obtain ⟨g,hg⟩:∃g:ByteArray->Option R,g=λs=>match decide (n+s.size+1<=140737488355328) with | true=>Lz F R l (n+s.size+1) (ts++[s]) k | false=>none:=⟨_,rfl⟩
  rw [<-hg] at h;obtain ⟨y,p,hH,hk⟩:=hF R (a,()) (λy _=>g y.1) r h;obtain ⟨s,hs⟩:∃s:ByteArray,s=y.1:=⟨_,rfl⟩
  have hk:g s=some r:=by rw [hs]; exact hk
  rw [hg] at hk;simp only at hk;split at hk<;>try (cases hk; done)
  rename_i hd;have hd':=Bw hd;have hH':Holds Tryz.prog 16 [.val KAns a] [.val .str s] []:=by subst hs; exact hH
  have hn':n+s.size+1=(texJ (ts++[s])).length:=by
   rw [Il,Ae];simp only [texJ,Ae,Af,Bz,zgj];omega
  obtain ⟨us,h1,h2,h3,h4⟩:=Re hF l _ _ hn' hk;rw [Ah,List.singleton_append] at h3 h4;refine ⟨s::us,by simp [h1],λi hi=>?_,.inl ?_,h4⟩
  ·cases i with
   | zero=>exact hH'
   | succ i=>exact h2 i (by simpa using hi)
  ·rcases h3 with h3 | rfl
   ·exact h3
   ·omega
theorem za9 {F:(R:Type)->KAns.T->(ByteArray->Option R)->Option R} (hF:(eV 16 [KAns] [.str] F).OK Tryz.prog):(eV 18 [(.sl KAns)] [.str] (λR l k=>Lz F R l 0 [] k)).OK Tryz.prog:=by
 intro R x k r h;obtain ⟨l,u⟩:=x;have h':Lz F R l 0 [] (λs=>k (s,()) ())=some r:=h;obtain ⟨us,h1,h2,h3,h4⟩:=Re hF l 0 [] rfl h';rw [A2] at h3 h4;refine ⟨(⟨(texJ us).toArray⟩,()),(),.inl (K1 (az:=[.val (.sl KAns) l]) (enters Tryz.func18 (by kernel_rfl) (by kernel_rfl)) OQ λw S vs hS hA=>?_),h4⟩;obtain ⟨v,vs',rfl,hv,_,rfl⟩:=hA;exact Tryz.script_Texts S w hS l us v hv h1 h2 (h3.elim id λe=>by rw [e]; exact Ct _)
end Go.PG
set_option maxRecDepth 100000
namespace Go.PG
open Go.Proofs
abbrev LI:=List Int
abbrev Kq1:Kd:=(.pair .bool (.pair (.arr 32 (.int .u8)) .unit))
abbrev Tq1:Type:=(Bool×(LI×Unit))
abbrev Kq2:Kd:=(.pair (.arr 32 (.int .u8)) Kq1)
abbrev Tq2:Type:=(LI×Tq1)
abbrev Kq3:Kd:=(.pair (.int .i64) Kq2)
abbrev Tq3:Type:=(Int×Tq2)
abbrev Kq4:Kd:=(.pair (.int .u64) (.pair (.int .u64) .unit))
abbrev Tq4:Type:=(Int×(Int×Unit))
abbrev Kq5:Kd:=(.pair (.arr 32 (.int .u8)) Kq4)
abbrev Tq5:Type:=(LI×Tq4)
abbrev Kq6:Kd:=(.pair .fn (.pair .fn .unit))
abbrev Tq6:Type:=(FnV×(FnV×Unit))
abbrev Kq7:Kd:=(.pair (.int .i64) Kq6)
abbrev Tq7:Type:=(Int×Tq6)
abbrev Kq8:Kd:=(.pair (.arr 32 (.int .u8)) (.pair (.int .i64) .unit))
abbrev Tq8:Type:=(LI×(Int×Unit))
abbrev Kq9:Kd:=(.pair (.int .u64) Kq8)
abbrev Tq9:Type:=(Int×Tq8)
abbrev Kq10:Kd:=(.pair (.int .i64) Kq9)
abbrev Tq10:Type:=(Int×Tq9)
abbrev Kq11:Kd:=(.pair (.int .i64) Kq10)
abbrev Tq11:Type:=(Int×Tq10)
abbrev Tq12:Type:=(LI×Int)
abbrev Kq13:Kd:=(.pair (.int .u64) (.pair (.int .i64) .unit))
abbrev Tq13:Type:=(Int×(Int×Unit))
abbrev Tq14:Type:=(Int×FnV)
abbrev Kq15:Kd:=(.pair (.sl (.int .i64)) (.pair (.arr 32 (.int .u8)) .unit))
abbrev Tq15:Type:=(LI×(LI×Unit))
abbrev Kq16:Kd:=(.pair (.int .u64) Kq15)
abbrev Tq16:Type:=(Int×Tq15)
abbrev Kq17:Kd:=(.pair (.int .i64) Kq16)
abbrev Tq17:Type:=(Int×Tq16)
abbrev Kq18:Kd:=(.pair (.int .i64) (.pair (.int .i64) .unit))
abbrev Tq18:Type:=(Int×(Int×Unit))
abbrev Kq19:Kd:=(.pair (.int .i64) Kq18)
abbrev Tq19:Type:=(Int×Tq18)
abbrev Kq20:Kd:=(.pair (.int .i64) Kq19)
abbrev Tq20:Type:=(Int×Tq19)
abbrev Kq21:Kd:=(.pair (.int .i64) Kq20)
abbrev Tq21:Type:=(Int×Tq20)
abbrev Kq22:Kd:=(.pair (.arr 32 (.int .u8)) (.pair (.sl Kq3) .unit))
abbrev Tq22:Type:=(LI×((List Tq3)×Unit))
abbrev Kq23:Kd:=(.pair (.arr 32 (.int .u8)) Kq22)
abbrev Tq23:Type:=(LI×Tq22)
abbrev Kq24:Kd:=(.pair (.int .u64) Kq23)
abbrev Tq24:Type:=(Int×Tq23)
abbrev Kq25:Kd:=(.pair (.sl (.int .i64)) (.pair (.sl (.int .i64)) .unit))
abbrev Tq25:Type:=(LI×(LI×Unit))
abbrev Kq26:Kd:=(.pair Kq24 Kq25)
abbrev Tq26:Type:=(Tq24×Tq25)
abbrev Kq27:Kd:=(.pair (.sl Kq5) Kq26)
abbrev Tq27:Type:=((List Tq5)×Tq26)
abbrev Kq28:Kd:=(.pair (.int .i64) Kq27)
abbrev Tq28:Type:=(Int×Tq27)
abbrev Kq29:Kd:=(.pair Kq21 Kq28)
abbrev Tq29:Type:=(Tq21×Tq28)
abbrev Kq30:Kd:=(.pair Kq17 .unit)
abbrev Tq30:Type:=(Tq17×Unit)
abbrev Kq31:Kd:=(.pair Kq29 Kq30)
abbrev Tq31:Type:=(Tq29×Tq30)
abbrev Kq32:Kd:=(.pair (.sl (.int .u8)) (.pair (.int .u64) .unit))
abbrev Tq32:Type:=(LI×(Int×Unit))
abbrev Kq33:Kd:=(.pair (.arr 8 (.int .u32)) Kq32)
abbrev Tq33:Type:=(LI×Tq32)
abbrev Kq34:Kd:=(.pair Kq33 .unit)
abbrev Tq34:Type:=(Tq33×Unit)
abbrev Kq35:Kd:=(.pair (.arr 32 (.int .u8)) (.pair (.arr 32 (.int .u8)) .unit))
abbrev Tq35:Type:=(LI×(LI×Unit))
abbrev Kq36:Kd:=(.pair (.arr 32 (.int .u8)) Kq35)
abbrev Tq36:Type:=(LI×Tq35)
abbrev Kq37:Kd:=(.pair (.int .u64) Kq36)
abbrev Tq37:Type:=(Int×Tq36)
abbrev Kq38:Kd:=(.pair (.int .u64) Kq5)
abbrev Tq38:Type:=(Int×Tq5)
abbrev Kq39:Kd:=(.pair (.sl (.int .u8)) Kq38)
abbrev Tq39:Type:=(LI×Tq38)
abbrev Kq40:Kd:=(.pair (.int .i64) Kq39)
abbrev Tq40:Type:=(Int×Tq39)
abbrev Kq41:Kd:=(.pair (.int .u64) (.pair .bool .unit))
abbrev Tq41:Type:=(Int×(Bool×Unit))
abbrev Kq42:Kd:=(.pair (.arr 32 (.int .u8)) Kq41)
abbrev Tq42:Type:=(LI×Tq41)
abbrev Kq43:Kd:=(.pair Kq40 Kq42)
abbrev Tq43:Type:=(Tq40×Tq42)
abbrev Kq44:Kd:=(.pair (.int .u64) (.pair (.sl Kq13) .unit))
abbrev Tq44:Type:=(Int×((List Tq13)×Unit))
abbrev Kq45:Kd:=(.pair (.sl (.int .u64)) Kq25)
abbrev Kq46:Kd:=(.pair Kq44 Kq45)
abbrev Kq53:Kd:=(.pair Kq17 (.pair .bool .unit))
def Fl (n:String) (t o b:Nat):Field:={name:=n,type:=t,offset:=o,embedded:=false,tag:= "",pkgPath:= "",byteOffset:=b}
def TT:Tab:=[
 (3,⟨.int .i64,1,8,some (.int .i64)⟩),
 (4,⟨.bool,1,1,some .bool⟩),
 (5,⟨.int .u8,1,1,some (.int .u8)⟩),
 (9,⟨.string,1,16,some .str⟩),
 (22,⟨.array 5 5,5,5,some (.arr 5 (.int .u8))⟩),
 (24,⟨.array 32 5,32,32,some (.arr 32 (.int .u8))⟩),
 (25,⟨.slice 5,1,24,some (.sl (.int .u8))⟩),
 (27,⟨.slice 69,1,24,some (.sl Kq11)⟩),
 (30,⟨.struct #[Fl "Slots" 3 0 0,Fl "Commit" 3 1 8,Fl "Reveal" 3 2 16,Fl "Attempts" 3 3 24,Fl "Most" 3 4 32],5,40,some Kq21⟩),
 (31,⟨.slice 113,1,24,some (.sl Kq5)⟩),
 (32,⟨.int .u64,1,8,some (.int .u64)⟩),
 (33,⟨.slice 159,1,24,some (.sl Kq3)⟩),
 (35,⟨.struct #[Fl "Epoch" 32 0 0,Fl "Seed" 24 1 8,Fl "Mix" 24 33 40,Fl "Commits" 33 65 72],66,96,some Kq24⟩),
 (36,⟨.slice 3,1,24,some (.sl (.int .i64))⟩),
 (38,⟨.struct #[Fl "Config" 30 0 0,Fl "Slot" 3 5 40,Fl "Vals" 31 6 48,Fl "Beacon" 35 7 72,Fl "Leaders" 36 73 168,Fl "Missed" 36 74 192],75,216,some Kq29⟩),
 (39,⟨.slice 52,1,24,some (.sl Kq17)⟩),
 (40,⟨.int .i64,1,8,some (.int .i64)⟩),
 (47,⟨.int .u32,1,4,some (.int .u32)⟩),
 (52,⟨.struct #[Fl "Err" 40 0 0,Fl "N" 32 1 8,Fl "Who" 36 2 16,Fl "Hash" 24 3 40],35,72,some Kq17⟩),
 (69,⟨.struct #[Fl "Kind" 3 0 0,Fl "Who" 3 1 8,Fl "Amount" 32 2 16,Fl "Hash" 24 3 24,Fl "N" 3 35 56],36,64,some Kq11⟩),
 (81,⟨.slice 9,1,24,some (.sl .str)⟩),
 (97,⟨.slice 100,1,24,some (.sl Kq37)⟩),
 (100,⟨.struct #[Fl "Epoch" 32 0 0,Fl "Seed" 24 1 8,Fl "Mix" 24 33 40,Fl "Next" 24 65 72],97,104,some Kq37⟩),
 (102,⟨.array 8 5,8,8,some (.arr 8 (.int .u8))⟩),
 (106,⟨.array 4 5,4,4,some (.arr 4 (.int .u8))⟩),
 (113,⟨.struct #[Fl "Key" 24 0 0,Fl "Stake" 32 32 32,Fl "Next" 32 33 40],34,48,some Kq5⟩),
 (117,⟨.int .u64,1,8,some (.int .u64)⟩),
 (124,⟨.func #[69] #[25] false,1,8,some .fn⟩),
 (126,⟨.func #[188] #[] false,1,8,some .fn⟩),
 (129,⟨.struct #[{name:= "answer",type:=52,offset:=0,embedded:=false,tag:= "",pkgPath:= "drawlot/audit",byteOffset:=0},{name:= "ends",type:=4,offset:=35,embedded:=false,tag:= "",pkgPath:= "drawlot/audit",byteOffset:=72}],36,80,some Kq53⟩),
 (131,⟨.slice 191,1,24,some (.sl (.arr 64 (.int .u8)))⟩),
 (137,⟨.array 8 47,8,32,some (.arr 8 (.int .u32))⟩),
 (143,⟨.slice 148,1,24,some (.sl Kq7)⟩),
 (146,⟨.func #[149,25] #[] false,1,8,some .fn⟩),
 (148,⟨.struct #[{name:= "size",type:=3,offset:=0,embedded:=false,tag:= "",pkgPath:= "drawlot/op",byteOffset:=0},{name:= "put",type:=124,offset:=1,embedded:=false,tag:= "",pkgPath:= "drawlot/op",byteOffset:=8},{name:= "take",type:=146,offset:=2,embedded:=false,tag:= "",pkgPath:= "drawlot/op",byteOffset:=16}],3,24,some Kq7⟩),
 (151,⟨.func #[155,69] #[40] false,1,8,some .fn⟩),
 (153,⟨.map 3 151,1,8,some .mp⟩),
 (157,⟨.struct #[{name:= "Ledger",type:=38,offset:=0,embedded:=true,tag:= "",pkgPath:= "",byteOffset:=0},{name:= "answer",type:=52,offset:=75,embedded:=false,tag:= "",pkgPath:= "drawlot/ledger",byteOffset:=216}],110,288,some Kq31⟩),
 (159,⟨.struct #[Fl "Who" 3 0 0,Fl "Hash" 24 1 8,Fl "Done" 4 33 40,Fl "Value" 24 34 41],66,80,some Kq3⟩),
 (182,⟨.slice 32,1,24,some (.sl (.int .u64))⟩),
 (189,⟨.slice 24,1,24,some (.sl (.arr 32 (.int .u8)))⟩),
 (191,⟨.array 64 5,64,64,some (.arr 64 (.int .u8))⟩),
 (221,⟨.struct #[Fl "Tree" 182 0 0],1,24,some (.pair (.sl (.int .u64)) .unit)⟩),
 (225,⟨.struct #[Fl "Kind" 3 0 0,Fl "Tape" 25 1 8,Fl "Bits" 32 2 32,Fl "Seed" 24 3 40,Fl "Domain" 32 35 72,Fl "At" 32 36 80],37,88,some Kq40⟩),
 (231,⟨.slice 25,1,24,some (.sl (.sl (.int .u8)))⟩),
 (233,⟨.struct #[Fl "State" 137 0 0,Fl "Rest" 25 8 32,Fl "Bytes" 32 9 56],10,64,some Kq33⟩),
 (239,⟨.array 64 47,64,256,some (.arr 64 (.int .u32))⟩),
 (240,⟨.array 64 47,64,256,some (.arr 64 (.int .u32))⟩),
 (246,⟨.func #[149] #[245] false,1,8,some .fn⟩),
 (265,⟨.slice 300,1,24,some (.sl Kq13)⟩),
 (267,⟨.struct #[Fl "Total" 32 0 0,Fl "Cells" 265 1 8],2,32,some Kq44⟩),
 (274,⟨.struct #[{name:= "Writer",type:=233,offset:=0,embedded:=true,tag:= "",pkgPath:= "",byteOffset:=0}],10,64,some Kq34⟩),
 (280,⟨.map 24 3,1,8,some .mp⟩),
 (293,⟨.struct #[{name:= "seed",type:=24,offset:=0,embedded:=false,tag:= "",pkgPath:= "drawlot/slots",byteOffset:=0},{name:= "attempts",type:=3,offset:=32,embedded:=false,tag:= "",pkgPath:= "drawlot/slots",byteOffset:=32}],33,40,some Kq8⟩),
 (300,⟨.struct #[Fl "Cut" 32 0 0,Fl "Alias" 3 1 8],2,16,some Kq13⟩),
 (328,⟨.slice 3,1,24,some (.sl (.int .i64))⟩),
 (330,⟨.struct #[{name:= "Table",type:=267,offset:=0,embedded:=true,tag:= "",pkgPath:= "",byteOffset:=0},{name:= "has",type:=182,offset:=2,embedded:=false,tag:= "",pkgPath:= "drawlot/alias",byteOffset:=32},{name:= "small",type:=328,offset:=3,embedded:=false,tag:= "",pkgPath:= "drawlot/alias",byteOffset:=56},{name:= "large",type:=328,offset:=4,embedded:=false,tag:= "",pkgPath:= "drawlot/alias",byteOffset:=80}],5,104,some Kq46⟩),
 (335,⟨.slice 47,1,24,some (.sl (.int .u32))⟩),
 (351,⟨.struct #[{name:= "Source",type:=225,offset:=0,embedded:=true,tag:= "",pkgPath:= "",byteOffset:=0},{name:= "block",type:=24,offset:=37,embedded:=false,tag:= "",pkgPath:= "drawlot/tape",byteOffset:=88},{name:= "at",type:=32,offset:=69,embedded:=false,tag:= "",pkgPath:= "drawlot/tape",byteOffset:=120},{name:= "some",type:=4,offset:=70,embedded:=false,tag:= "",pkgPath:= "drawlot/tape",byteOffset:=128}],71,136,some Kq43⟩)]
def EQT:List Nat:=[3,24,30,69,113,159]
theorem ty3:TyOK Tryz.prog TT 3 ⟨.int .i64,1,8,some (.int .i64)⟩:=Dx Tryz.underlying3 (by kernel_rfl)
theorem ty4:TyOK Tryz.prog TT 4 ⟨.bool,1,1,some .bool⟩:=Dx Tryz.underlying4 (by kernel_rfl)
theorem ty5:TyOK Tryz.prog TT 5 ⟨.int .u8,1,1,some (.int .u8)⟩:=Dx Tryz.underlying5 (by kernel_rfl)
theorem ty9:TyOK Tryz.prog TT 9 ⟨.string,1,16,some .str⟩:=Dx Tryz.underlying9 (by kernel_rfl)
theorem ty22:TyOK Tryz.prog TT 22 ⟨.array 5 5,5,5,some (.arr 5 (.int .u8))⟩:=Dx Tryz.underlying22 (by kernel_rfl)
theorem ty24:TyOK Tryz.prog TT 24 ⟨.array 32 5,32,32,some (.arr 32 (.int .u8))⟩:=Dx Tryz.underlying24 (by kernel_rfl)
theorem ty25:TyOK Tryz.prog TT 25 ⟨.slice 5,1,24,some (.sl (.int .u8))⟩:=Dx Tryz.underlying25 (by kernel_rfl)
theorem ty27:TyOK Tryz.prog TT 27 ⟨.slice 69,1,24,some (.sl Kq11)⟩:=Dx Tryz.underlying27 (by kernel_rfl)
theorem ty30:TyOK Tryz.prog TT 30 ⟨.struct #[{name:= "Slots",type:=3,offset:=0,embedded:=false,tag:= "",pkgPath:= "",byteOffset:=0},{name:= "Commit",type:=3,offset:=1,embedded:=false,tag:= "",pkgPath:= "",byteOffset:=8},{name:= "Reveal",type:=3,offset:=2,embedded:=false,tag:= "",pkgPath:= "",byteOffset:=16},{name:= "Attempts",type:=3,offset:=3,embedded:=false,tag:= "",pkgPath:= "",byteOffset:=24},{name:= "Most",type:=3,offset:=4,embedded:=false,tag:= "",pkgPath:= "",byteOffset:=32}],5,40,some Kq21⟩:=Dx Tryz.underlying30 (by kernel_rfl)
theorem ty31:TyOK Tryz.prog TT 31 ⟨.slice 113,1,24,some (.sl Kq5)⟩:=Dx Tryz.underlying31 (by kernel_rfl)
theorem ty32:TyOK Tryz.prog TT 32 ⟨.int .u64,1,8,some (.int .u64)⟩:=Dx Tryz.underlying32 (by kernel_rfl)
theorem ty33:TyOK Tryz.prog TT 33 ⟨.slice 159,1,24,some (.sl Kq3)⟩:=Dx Tryz.underlying33 (by kernel_rfl)
theorem ty35:TyOK Tryz.prog TT 35 ⟨.struct #[{name:= "Epoch",type:=32,offset:=0,embedded:=false,tag:= "",pkgPath:= "",byteOffset:=0},{name:= "Seed",type:=24,offset:=1,embedded:=false,tag:= "",pkgPath:= "",byteOffset:=8},{name:= "Mix",type:=24,offset:=33,embedded:=false,tag:= "",pkgPath:= "",byteOffset:=40},{name:= "Commits",type:=33,offset:=65,embedded:=false,tag:= "",pkgPath:= "",byteOffset:=72}],66,96,some Kq24⟩:=Dx Tryz.underlying35 (by kernel_rfl)
theorem ty36:TyOK Tryz.prog TT 36 ⟨.slice 3,1,24,some (.sl (.int .i64))⟩:=Dx Tryz.underlying36 (by kernel_rfl)
theorem ty38:TyOK Tryz.prog TT 38 ⟨.struct #[{name:= "Config",type:=30,offset:=0,embedded:=false,tag:= "",pkgPath:= "",byteOffset:=0},{name:= "Slot",type:=3,offset:=5,embedded:=false,tag:= "",pkgPath:= "",byteOffset:=40},{name:= "Vals",type:=31,offset:=6,embedded:=false,tag:= "",pkgPath:= "",byteOffset:=48},{name:= "Beacon",type:=35,offset:=7,embedded:=false,tag:= "",pkgPath:= "",byteOffset:=72},{name:= "Leaders",type:=36,offset:=73,embedded:=false,tag:= "",pkgPath:= "",byteOffset:=168},{name:= "Missed",type:=36,offset:=74,embedded:=false,tag:= "",pkgPath:= "",byteOffset:=192}],75,216,some Kq29⟩:=Dx Tryz.underlying38 (by kernel_rfl)
theorem ty39:TyOK Tryz.prog TT 39 ⟨.slice 52,1,24,some (.sl Kq17)⟩:=Dx Tryz.underlying39 (by kernel_rfl)
theorem ty40:TyOK Tryz.prog TT 40 ⟨.int .i64,1,8,some (.int .i64)⟩:=Dx Tryz.underlying40 (by kernel_rfl)
theorem ty47:TyOK Tryz.prog TT 47 ⟨.int .u32,1,4,some (.int .u32)⟩:=Dx Tryz.underlying47 (by kernel_rfl)
theorem ty52:TyOK Tryz.prog TT 52 ⟨.struct #[{name:= "Err",type:=40,offset:=0,embedded:=false,tag:= "",pkgPath:= "",byteOffset:=0},{name:= "N",type:=32,offset:=1,embedded:=false,tag:= "",pkgPath:= "",byteOffset:=8},{name:= "Who",type:=36,offset:=2,embedded:=false,tag:= "",pkgPath:= "",byteOffset:=16},{name:= "Hash",type:=24,offset:=3,embedded:=false,tag:= "",pkgPath:= "",byteOffset:=40}],35,72,some Kq17⟩:=Dx Tryz.underlying52 (by kernel_rfl)
theorem ty69:TyOK Tryz.prog TT 69 ⟨.struct #[{name:= "Kind",type:=3,offset:=0,embedded:=false,tag:= "",pkgPath:= "",byteOffset:=0},{name:= "Who",type:=3,offset:=1,embedded:=false,tag:= "",pkgPath:= "",byteOffset:=8},{name:= "Amount",type:=32,offset:=2,embedded:=false,tag:= "",pkgPath:= "",byteOffset:=16},{name:= "Hash",type:=24,offset:=3,embedded:=false,tag:= "",pkgPath:= "",byteOffset:=24},{name:= "N",type:=3,offset:=35,embedded:=false,tag:= "",pkgPath:= "",byteOffset:=56}],36,64,some Kq11⟩:=Dx Tryz.underlying69 (by kernel_rfl)
theorem ty81:TyOK Tryz.prog TT 81 ⟨.slice 9,1,24,some (.sl .str)⟩:=Dx Tryz.underlying81 (by kernel_rfl)
theorem ty97:TyOK Tryz.prog TT 97 ⟨.slice 100,1,24,some (.sl Kq37)⟩:=Dx Tryz.underlying97 (by kernel_rfl)
theorem zxg:TyOK Tryz.prog TT 100 ⟨.struct #[{name:= "Epoch",type:=32,offset:=0,embedded:=false,tag:= "",pkgPath:= "",byteOffset:=0},{name:= "Seed",type:=24,offset:=1,embedded:=false,tag:= "",pkgPath:= "",byteOffset:=8},{name:= "Mix",type:=24,offset:=33,embedded:=false,tag:= "",pkgPath:= "",byteOffset:=40},{name:= "Next",type:=24,offset:=65,embedded:=false,tag:= "",pkgPath:= "",byteOffset:=72}],97,104,some Kq37⟩:=Dx Tryz.underlying100 (by kernel_rfl)
theorem zxf:TyOK Tryz.prog TT 102 ⟨.array 8 5,8,8,some (.arr 8 (.int .u8))⟩:=Dx Tryz.underlying102 (by kernel_rfl)
theorem zxe:TyOK Tryz.prog TT 106 ⟨.array 4 5,4,4,some (.arr 4 (.int .u8))⟩:=Dx Tryz.underlying106 (by kernel_rfl)
theorem zxd:TyOK Tryz.prog TT 113 ⟨.struct #[{name:= "Key",type:=24,offset:=0,embedded:=false,tag:= "",pkgPath:= "",byteOffset:=0},{name:= "Stake",type:=32,offset:=32,embedded:=false,tag:= "",pkgPath:= "",byteOffset:=32},{name:= "Next",type:=32,offset:=33,embedded:=false,tag:= "",pkgPath:= "",byteOffset:=40}],34,48,some Kq5⟩:=Dx Tryz.underlying113 (by kernel_rfl)
theorem zxc:TyOK Tryz.prog TT 117 ⟨.int .u64,1,8,some (.int .u64)⟩:=Dx Tryz.underlying117 (by kernel_rfl)
theorem zxb:TyOK Tryz.prog TT 124 ⟨.func #[69] #[25] false,1,8,some .fn⟩:=Dx Tryz.underlying124 (by kernel_rfl)
theorem zxa:TyOK Tryz.prog TT 126 ⟨.func #[188] #[] false,1,8,some .fn⟩:=Dx Tryz.underlying126 (by kernel_rfl)
theorem zw9:TyOK Tryz.prog TT 129 ⟨.struct #[{name:= "answer",type:=52,offset:=0,embedded:=false,tag:= "",pkgPath:= "drawlot/audit",byteOffset:=0},{name:= "ends",type:=4,offset:=35,embedded:=false,tag:= "",pkgPath:= "drawlot/audit",byteOffset:=72}],36,80,some Kq53⟩:=Dx Tryz.underlying129 (by kernel_rfl)
theorem zw8:TyOK Tryz.prog TT 131 ⟨.slice 191,1,24,some (.sl (.arr 64 (.int .u8)))⟩:=Dx Tryz.underlying131 (by kernel_rfl)
theorem zw7:TyOK Tryz.prog TT 137 ⟨.array 8 47,8,32,some (.arr 8 (.int .u32))⟩:=Dx Tryz.underlying137 (by kernel_rfl)
theorem zw6:TyOK Tryz.prog TT 143 ⟨.slice 148,1,24,some (.sl Kq7)⟩:=Dx Tryz.underlying143 (by kernel_rfl)
theorem zw5:TyOK Tryz.prog TT 146 ⟨.func #[149,25] #[] false,1,8,some .fn⟩:=Dx Tryz.underlying146 (by kernel_rfl)
theorem zw4:TyOK Tryz.prog TT 148 ⟨.struct #[{name:= "size",type:=3,offset:=0,embedded:=false,tag:= "",pkgPath:= "drawlot/op",byteOffset:=0},{name:= "put",type:=124,offset:=1,embedded:=false,tag:= "",pkgPath:= "drawlot/op",byteOffset:=8},{name:= "take",type:=146,offset:=2,embedded:=false,tag:= "",pkgPath:= "drawlot/op",byteOffset:=16}],3,24,some Kq7⟩:=Dx Tryz.underlying148 (by kernel_rfl)
theorem zw3:TyOK Tryz.prog TT 151 ⟨.func #[155,69] #[40] false,1,8,some .fn⟩:=Dx Tryz.underlying151 (by kernel_rfl)
theorem zw2:TyOK Tryz.prog TT 153 ⟨.map 3 151,1,8,some .mp⟩:=Dx Tryz.underlying153 (by kernel_rfl)
theorem zw1:TyOK Tryz.prog TT 157 ⟨.struct #[{name:= "Ledger",type:=38,offset:=0,embedded:=true,tag:= "",pkgPath:= "",byteOffset:=0},{name:= "answer",type:=52,offset:=75,embedded:=false,tag:= "",pkgPath:= "drawlot/ledger",byteOffset:=216}],110,288,some Kq31⟩:=Dx Tryz.underlying157 (by kernel_rfl)
theorem zw0:TyOK Tryz.prog TT 159 ⟨.struct #[{name:= "Who",type:=3,offset:=0,embedded:=false,tag:= "",pkgPath:= "",byteOffset:=0},{name:= "Hash",type:=24,offset:=1,embedded:=false,tag:= "",pkgPath:= "",byteOffset:=8},{name:= "Done",type:=4,offset:=33,embedded:=false,tag:= "",pkgPath:= "",byteOffset:=40},{name:= "Value",type:=24,offset:=34,embedded:=false,tag:= "",pkgPath:= "",byteOffset:=41}],66,80,some Kq3⟩:=Dx Tryz.underlying159 (by kernel_rfl)
theorem zwz:TyOK Tryz.prog TT 182 ⟨.slice 32,1,24,some (.sl (.int .u64))⟩:=Dx Tryz.underlying182 (by kernel_rfl)
theorem zwy:TyOK Tryz.prog TT 189 ⟨.slice 24,1,24,some (.sl (.arr 32 (.int .u8)))⟩:=Dx Tryz.underlying189 (by kernel_rfl)
theorem zwx:TyOK Tryz.prog TT 191 ⟨.array 64 5,64,64,some (.arr 64 (.int .u8))⟩:=Dx Tryz.underlying191 (by kernel_rfl)
theorem zww:TyOK Tryz.prog TT 221 ⟨.struct #[{name:= "Tree",type:=182,offset:=0,embedded:=false,tag:= "",pkgPath:= "",byteOffset:=0}],1,24,some (.pair (.sl (.int .u64)) .unit)⟩:=Dx Tryz.underlying221 (by kernel_rfl)
theorem zwv:TyOK Tryz.prog TT 225 ⟨.struct #[{name:= "Kind",type:=3,offset:=0,embedded:=false,tag:= "",pkgPath:= "",byteOffset:=0},{name:= "Tape",type:=25,offset:=1,embedded:=false,tag:= "",pkgPath:= "",byteOffset:=8},{name:= "Bits",type:=32,offset:=2,embedded:=false,tag:= "",pkgPath:= "",byteOffset:=32},{name:= "Seed",type:=24,offset:=3,embedded:=false,tag:= "",pkgPath:= "",byteOffset:=40},{name:= "Domain",type:=32,offset:=35,embedded:=false,tag:= "",pkgPath:= "",byteOffset:=72},{name:= "At",type:=32,offset:=36,embedded:=false,tag:= "",pkgPath:= "",byteOffset:=80}],37,88,some Kq40⟩:=Dx Tryz.underlying225 (by kernel_rfl)
theorem zwu:TyOK Tryz.prog TT 231 ⟨.slice 25,1,24,some (.sl (.sl (.int .u8)))⟩:=Dx Tryz.underlying231 (by kernel_rfl)
theorem zwt:TyOK Tryz.prog TT 233 ⟨.struct #[{name:= "State",type:=137,offset:=0,embedded:=false,tag:= "",pkgPath:= "",byteOffset:=0},{name:= "Rest",type:=25,offset:=8,embedded:=false,tag:= "",pkgPath:= "",byteOffset:=32},{name:= "Bytes",type:=32,offset:=9,embedded:=false,tag:= "",pkgPath:= "",byteOffset:=56}],10,64,some Kq33⟩:=Dx Tryz.underlying233 (by kernel_rfl)
theorem zws:TyOK Tryz.prog TT 239 ⟨.array 64 47,64,256,some (.arr 64 (.int .u32))⟩:=Dx Tryz.underlying239 (by kernel_rfl)
theorem zwr:TyOK Tryz.prog TT 240 ⟨.array 64 47,64,256,some (.arr 64 (.int .u32))⟩:=Dx Tryz.underlying240 (by kernel_rfl)
theorem zwq:TyOK Tryz.prog TT 246 ⟨.func #[149] #[245] false,1,8,some .fn⟩:=Dx Tryz.underlying246 (by kernel_rfl)
theorem zwp:TyOK Tryz.prog TT 265 ⟨.slice 300,1,24,some (.sl Kq13)⟩:=Dx Tryz.underlying265 (by kernel_rfl)
theorem zwo:TyOK Tryz.prog TT 267 ⟨.struct #[{name:= "Total",type:=32,offset:=0,embedded:=false,tag:= "",pkgPath:= "",byteOffset:=0},{name:= "Cells",type:=265,offset:=1,embedded:=false,tag:= "",pkgPath:= "",byteOffset:=8}],2,32,some Kq44⟩:=Dx Tryz.underlying267 (by kernel_rfl)
theorem zwn:TyOK Tryz.prog TT 274 ⟨.struct #[{name:= "Writer",type:=233,offset:=0,embedded:=true,tag:= "",pkgPath:= "",byteOffset:=0}],10,64,some Kq34⟩:=Dx Tryz.underlying274 (by kernel_rfl)
theorem zwm:TyOK Tryz.prog TT 280 ⟨.map 24 3,1,8,some .mp⟩:=Dx Tryz.underlying280 (by kernel_rfl)
theorem zwl:TyOK Tryz.prog TT 293 ⟨.struct #[{name:= "seed",type:=24,offset:=0,embedded:=false,tag:= "",pkgPath:= "drawlot/slots",byteOffset:=0},{name:= "attempts",type:=3,offset:=32,embedded:=false,tag:= "",pkgPath:= "drawlot/slots",byteOffset:=32}],33,40,some Kq8⟩:=Dx Tryz.underlying293 (by kernel_rfl)
theorem zwk:TyOK Tryz.prog TT 300 ⟨.struct #[{name:= "Cut",type:=32,offset:=0,embedded:=false,tag:= "",pkgPath:= "",byteOffset:=0},{name:= "Alias",type:=3,offset:=1,embedded:=false,tag:= "",pkgPath:= "",byteOffset:=8}],2,16,some Kq13⟩:=Dx Tryz.underlying300 (by kernel_rfl)
theorem zwj:TyOK Tryz.prog TT 328 ⟨.slice 3,1,24,some (.sl (.int .i64))⟩:=Dx Tryz.underlying328 (by kernel_rfl)
theorem zwi:TyOK Tryz.prog TT 330 ⟨.struct #[{name:= "Table",type:=267,offset:=0,embedded:=true,tag:= "",pkgPath:= "",byteOffset:=0},{name:= "has",type:=182,offset:=2,embedded:=false,tag:= "",pkgPath:= "drawlot/alias",byteOffset:=32},{name:= "small",type:=328,offset:=3,embedded:=false,tag:= "",pkgPath:= "drawlot/alias",byteOffset:=56},{name:= "large",type:=328,offset:=4,embedded:=false,tag:= "",pkgPath:= "drawlot/alias",byteOffset:=80}],5,104,some Kq46⟩:=Dx Tryz.underlying330 (by kernel_rfl)
theorem zwh:TyOK Tryz.prog TT 335 ⟨.slice 47,1,24,some (.sl (.int .u32))⟩:=Dx Tryz.underlying335 (by kernel_rfl)
theorem zwg:TyOK Tryz.prog TT 351 ⟨.struct #[{name:= "Source",type:=225,offset:=0,embedded:=true,tag:= "",pkgPath:= "",byteOffset:=0},{name:= "block",type:=24,offset:=37,embedded:=false,tag:= "",pkgPath:= "drawlot/tape",byteOffset:=88},{name:= "at",type:=32,offset:=69,embedded:=false,tag:= "",pkgPath:= "drawlot/tape",byteOffset:=120},{name:= "some",type:=4,offset:=70,embedded:=false,tag:= "",pkgPath:= "drawlot/tape",byteOffset:=128}],71,136,some Kq43⟩:=Dx Tryz.underlying351 (by kernel_rfl)
theorem tabOK:D3 Tryz.prog TT:=zba (Dp ty3 (Dp ty4 (Dp ty5 (Dp ty9 (Dp ty22 (Dp ty24 (Dp ty25 (Dp ty27 (Dp ty30 (Dp ty31 (Dp ty32 (Dp ty33 (Dp ty35 (Dp ty36 (Dp ty38 (Dp ty39 (Dp ty40 (Dp ty47 (Dp ty52 (Dp ty69 (Dp ty81 (Dp ty97 (Dp zxg (Dp zxf (Dp zxe (Dp zxd (Dp zxc (Dp zxb (Dp zxa (Dp zw9 (Dp zw8 (Dp zw7 (Dp zw6 (Dp zw5 (Dp zw4 (Dp zw3 (Dp zw2 (Dp zw1 (Dp zw0 (Dp zwz (Dp zwy (Dp zwx (Dp zww (Dp zwv (Dp zwu (Dp zwt (Dp zws (Dp zwr (Dp zwq (Dp zwp (Dp zwo (Dp zwn (Dp zwm (Dp zwl (Dp zwk (Dp zwj (Dp zwi (Dp zwh (Dp zwg E3)))))))))))))))))))))))))))))))))))))))))))))))))))))))))))
theorem eqOK:∀t∈EQT,∀k,tkd TT t=some k->EqOK Tryz.prog t k:=(Dp (λk h=>by
  have h':some ((.int .i64):Kd)=some k:=h;cases h';exact Oq tabOK (k:=(.int .i64)) rfl (by kernel_rfl) (by kernel_rfl) (by decide)) (Dp (λk h=>by
  have h':some ((.arr 32 (.int .u8)):Kd)=some k:=h;cases h';exact Oq tabOK (k:=(.arr 32 (.int .u8))) rfl (by kernel_rfl) (by kernel_rfl) (by decide)) (Dp (λk h=>by
  have h':some (Kq21:Kd)=some k:=h;cases h';exact Oq tabOK (k:=Kq21) rfl (by kernel_rfl) (by kernel_rfl) (by decide)) (Dp (λk h=>by
  have h':some (Kq11:Kd)=some k:=h;cases h';exact Oq tabOK (k:=Kq11) rfl (by kernel_rfl) (by kernel_rfl) (by decide)) (Dp (λk h=>by
  have h':some (Kq5:Kd)=some k:=h;cases h';exact Oq tabOK (k:=Kq5) rfl (by kernel_rfl) (by kernel_rfl) (by decide)) (Dp (λk h=>by
  have h':some (Kq3:Kd)=some k:=h;cases h';exact Oq tabOK (k:=Kq3) rfl (by kernel_rfl) (by kernel_rfl) (by decide)) E3))))))
theorem mixed:Tryz.prog.follows .mixedOrders=true:=by kernel_rfl
abbrev OKP (e:Ent):Prop:=e.OK Tryz.prog
abbrev LKP (e:LEnt) (np nt l:Nat) (f:Func):Prop:=e.OK Tryz.prog np nt (Fu l (Ds f))
abbrev sE:=mE TT EQT
theorem ST:Seat Tryz.prog TT EQT:=⟨tabOK,eqOK,mixed⟩
abbrev FT54:=(R:Type)->Int->(LI->Option R)->Option R
def en54 (F:FT54):Ent:=eV 54 [(.int .u64)] [(.arr 8 (.int .u8))] F
abbrev zqs (Z:Type):=Int->Int->LI->LI->Z
abbrev zvz (R:Type):=(LI->LI->Option R)->Option R
abbrev Um:=(R:Type)->zqs (zvz R)
def RJ (L:Um):LEnt:=lM 3 [.val 0 (.int .u64),.fix 2 (.ptr 0 [] (.arr 8 (.int .u8))),.fix 3 (.ptr 1 [] (.arr 8 (.int .u8))),.val 4 (.int .i64),.var 0 (.arr 8 (.int .u8)) false,.var 1 (.arr 8 (.int .u8)) false] 2 [(.exit 0,[.fix 2 (.ptr 0 [] (.arr 8 (.int .u8))),.fix 3 (.ptr 1 [] (.arr 8 (.int .u8))),.var 0 (.arr 8 (.int .u8)) false,.var 1 (.arr 8 (.int .u8)) false])] L
def e54 (L3:Um):=sE 0 17 [] [] [RJ L3]
def zbu (R:Type):zqs (zqs (Option R)->zvz R):=λx1 x2 x3 x4 kc k0=>
(match decide (x2>=0) with
|true=>(match (bnd x2 (8:Int)) with
|true=>kc (u64.wrap (Int.tdiv x1 (256:Int))) (i64.wrap (x2 - 1)) x3 (x4.set x2.toNat (u8.wrap (Int.tmod x1 (256:Int))))
|false=>none)
|false=>k0 x3 x4)
theorem zxu (L3:Um):LEQ (RJ L3) (e54 L3) Tryz.f54 zbu:=λ_ _ _ _=>by kernel_rfl
def Zo:Nat->Um
 | 0=>λ_ _ _ _ _ _=>none
 | n+1=>λR x1 x2 x3 x4 k0=>zbu R x1 x2 x3 x4 (λx1 x2 x3 x4=>Zo n R x1 x2 x3 x4 k0) k0
def p54 (L3:Um):FT54:=λR a0 k=>
L3 R a0 (7:Int) (replicate 8 (0:Int)) (replicate 8 (0:Int)) (λx1 x2=>
k x2)
theorem q54 (L3:Um):EQ (en54 (p54 L3)) (e54 L3) Tryz.f54 [(.cell 2 102,102,false)]:=λ_ _ _=>by kernel_rfl
def F54:FT54:=p54 (Zo FUEL)
theorem zkm:LKP (RJ (Zo FUEL)) 0 17 3 Tryz.f54:=ST.lok (zxu (Zo FUEL)) Dl [] trivial
theorem ok54:OKP (en54 F54):=ST.ok1 (q54 (Zo FUEL)) Dl Tryz.func54 [3] ⟨⟨_,rfl,zkm⟩,trivial⟩
abbrev FT56:=(R:Type)->LI->(Int->Option R)->Option R
def en56 (F:FT56):Ent:=eV 56 [(.arr 4 (.int .u8))] [(.int .u32)] F
abbrev zqr (Z:Type):=Int->Int->LI->Z
abbrev zvy (R:Type):=(Int->Option R)->Option R
abbrev Ul:=(R:Type)->zqr (zvy R)
def RH (L:Ul):LEnt:=lM 3 [.fix 1 (.ptr 0 [] (.arr 4 (.int .u8))),.val 3 (.int .u32),.val 4 (.int .i64),.var 0 (.arr 4 (.int .u8)) false] 1 [(.exit 0,[.val 3 (.int .u32)])] L
def e56 (L3:Ul):=sE 0 17 [] [] [RH L3]
def zje (R:Type):zqr (zqr (Option R)->zvy R):=λx1 x2 x3 kc k0=>
(match decide (x2<4) with
|true=>(match (bnd x2 (4:Int)) with
|true=>kc (u32.wrap ((u32.wrap (x1*256))+(u32.wrap (x3.getD x2.toNat 0)))) (i64.wrap (x2+1)) x3
|false=>none)
|false=>k0 x1)
theorem zxt (L3:Ul):LEQ (RH L3) (e56 L3) Tryz.f56 zje:=λ_ _ _ _=>by kernel_rfl
def MK:Nat->Ul
 | 0=>λ_ _ _ _ _=>none
 | n+1=>λR x1 x2 x3 k0=>zje R x1 x2 x3 (λx1 x2 x3=>MK n R x1 x2 x3 k0) k0
def p56 (L3:Ul):FT56:=λR a0 k=>
L3 R (0:Int) (0:Int) a0 (λx1=>
k x1)
theorem q56 (L3:Ul):EQ (en56 (p56 L3)) (e56 L3) Tryz.f56 [(.tmp 2,47,false)]:=λ_ _ _=>by kernel_rfl
def F56:FT56:=p56 (MK FUEL)
theorem zkl:LKP (RH (MK FUEL)) 0 17 3 Tryz.f56:=ST.lok (zxt (MK FUEL)) Dl [] trivial
theorem ok56:OKP (en56 F56):=ST.ok1 (q56 (MK FUEL)) Dl Tryz.func56 [3] ⟨⟨_,rfl,zkl⟩,trivial⟩
abbrev FT70:=(R:Type)->Int->(LI->Option R)->Option R
def en70 (F:FT70):Ent:=eV 70 [(.int .u32)] [(.arr 4 (.int .u8))] F
def p70:FT70:=λR a0 k=>
k (List.set (List.set (List.set (List.set (replicate 4 (0:Int)) 0 (u8.wrap (u32.wrap (Int.tdiv a0 (16777216:Int))))) 1 (u8.wrap (Int.tmod (u32.wrap (Int.tdiv a0 (65536:Int))) (256:Int)))) 2 (u8.wrap (Int.tmod (u32.wrap (Int.tdiv a0 (256:Int))) (256:Int)))) 3 (u8.wrap (Int.tmod a0 (256:Int))))
theorem q70:EQ (en70 p70) (sE 0 18 [] [] []) Tryz.f70 [(.cell 2 106,106,false)]:=λ_ _ _=>by kernel_rfl
def F70:FT70:=p70
theorem ok70:OKP (en70 F70):=ST.ok0 q70 Dl Tryz.func70
abbrev N9:=(R:Type)->Int->(LI->Option R)->Option R
def DK (F:N9):Ent:=eV 115 [(.int .u64)] [(.arr 8 (.int .u8))] F
abbrev zav (Z:Type):=Int->Int->LI->Z
abbrev zh7 (R:Type):=(LI->Option R)->Option R
abbrev Pw:=(R:Type)->zav (zh7 R)
def DD (L:Pw):LEnt:=lM 2 [.val 0 (.int .u64),.fix 2 (.ptr 0 [] (.arr 8 (.int .u8))),.val 4 (.int .i64),.var 0 (.arr 8 (.int .u8)) false] 1 [(.exit 0,[.fix 2 (.ptr 0 [] (.arr 8 (.int .u8))),.var 0 (.arr 8 (.int .u8)) false])] L
def e115 (L2:Pw):=sE 0 18 [] [] [DD L2]
def QF (R:Type):zav (zav (Option R)->zh7 R):=λx1 x2 x3 kc k0=>
(match decide (x2<8) with
|true=>let v7:=u64.wrap (i64.wrap ((8:Int)*(i64.wrap ((7:Int) - x2))));(match (decide (0<=v7)) with
|true=>(match (bnd x2 (8:Int)) with
|true=>kc x1 (i64.wrap (x2+1)) (x3.set x2.toNat (u8.wrap (ishr .u64 x1 v7)))
|false=>none)
|false=>none)
|false=>k0 x3)
theorem zsh (L2:Pw):LEQ (DD L2) (e115 L2) Tryz.f115 QF:=λ_ _ _ _=>by kernel_rfl
def Tf:Nat->Pw
 | 0=>λ_ _ _ _ _=>none
 | n+1=>λR x1 x2 x3 k0=>QF R x1 x2 x3 (λx1 x2 x3=>Tf n R x1 x2 x3 k0) k0
def p115 (L2:Pw):N9:=λR a0 k=>
L2 R a0 (0:Int) (replicate 8 (0:Int)) (λx1=>
k x1)
theorem q115 (L2:Pw):EQ (DK (p115 L2)) (e115 L2) Tryz.f115 [(.cell 2 102,102,false)]:=λ_ _ _=>by kernel_rfl
def F115:N9:=p115 (Tf FUEL)
theorem zdh:LKP (DD (Tf FUEL)) 0 18 2 Tryz.f115:=ST.lok (zsh (Tf FUEL)) Dl [] trivial
theorem QM:OKP (DK F115):=ST.ok1 (q115 (Tf FUEL)) Dl Tryz.func115 [2] ⟨⟨_,rfl,zdh⟩,trivial⟩
abbrev zab:=(R:Type)->LI->(Int->Option R)->Option R
def zez (F:zab):Ent:=eV 173 [(.arr 8 (.int .u8))] [(.int .u64)] F
abbrev zam (Z:Type):=Int->LI->Int->Z
abbrev zhy (R:Type):=(Int->Option R)->Option R
abbrev Pt:=(R:Type)->zam (zhy R)
def CU (L:Pt):LEnt:=lM 2 [.val 2 (.int .u64),.val 5 (.arr 8 (.int .u8)),.val 6 (.int .i64)] 0 [(.exit 0,[.val 2 (.int .u64)])] L
def e173 (L2:Pt):=sE 0 16 [] [] [CU L2]
def PY (R:Type):zam (zam (Option R)->zhy R):=λx1 x2 x3 kc k0=>
(match decide (x3<8) with
|true=>(match (bnd x3 (8:Int)) with
|true=>kc (ior .u64 (ishl .u64 x1 (8:Int)) (u64.wrap (x2.getD x3.toNat 0))) x2 (i64.wrap (x3+1))
|false=>none)
|false=>k0 x1)
theorem zr8 (L2:Pt):LEQ (CU L2) (e173 L2) Tryz.f173 PY:=λ_ _ _ _=>by kernel_rfl
def U1:Nat->Pt
 | 0=>λ_ _ _ _ _=>none
 | n+1=>λR x1 x2 x3 k0=>PY R x1 x2 x3 (λx1 x2 x3=>U1 n R x1 x2 x3 k0) k0
def p173 (L2:Pt):zab:=λR a0 k=>
L2 R (0:Int) a0 (0:Int) (λx1=>
k x1)
theorem q173 (L2:Pt):EQ (zez (p173 L2)) (e173 L2) Tryz.f173 [(.tmp 2,32,false)]:=λ_ _ _=>by kernel_rfl
def F173:zab:=p173 (U1 FUEL)
theorem zc8:LKP (CU (U1 FUEL)) 0 16 2 Tryz.f173:=ST.lok (zr8 (U1 FUEL)) Dl [] trivial
theorem ztq:OKP (zez F173):=ST.ok1 (q173 (U1 FUEL)) Dl Tryz.func173 [2] ⟨⟨_,rfl,zc8⟩,trivial⟩
abbrev Qx:=(R:Type)->Int->(LI->Option R)->Option R
def TQ (F:Qx):Ent:=eV 218 [(.int .u32)] [(.arr 4 (.int .u8))] F
def p218:Qx:=λR a0 k=>
k (List.set (List.set (List.set (List.set (replicate 4 (0:Int)) 0 (u8.wrap (ishr .u32 a0 (24:Int)))) 1 (u8.wrap (ishr .u32 a0 (16:Int)))) 2 (u8.wrap (ishr .u32 a0 (8:Int)))) 3 (u8.wrap a0))
theorem q218:EQ (TQ p218) (sE 0 15 [] [] []) Tryz.f218 [(.cell 2 106,106,false)]:=λ_ _ _=>by kernel_rfl
def F218:Qx:=p218
theorem zb4:OKP (TQ F218):=ST.ok0 q218 Dl Tryz.func218
abbrev Qw:=(R:Type)->LI->(Int->Option R)->Option R
def TP (F:Qw):Ent:=eV 220 [(.arr 4 (.int .u8))] [(.int .u32)] F
abbrev zai (Z:Type):=Int->LI->Int->Z
abbrev zhu (R:Type):=(Int->Option R)->Option R
abbrev Pp:=(R:Type)->zai (zhu R)
def CQ (L:Pp):LEnt:=lM 2 [.val 2 (.int .u32),.val 5 (.arr 4 (.int .u8)),.val 6 (.int .i64)] 0 [(.exit 0,[.val 2 (.int .u32)])] L
def e220 (L2:Pp):=sE 0 16 [] [] [CQ L2]
def PU (R:Type):zai (zai (Option R)->zhu R):=λx1 x2 x3 kc k0=>
(match decide (x3<4) with
|true=>(match (bnd x3 (4:Int)) with
|true=>kc (ior .u32 (ishl .u32 x1 (8:Int)) (u32.wrap (x2.getD x3.toNat 0))) x2 (i64.wrap (x3+1))
|false=>none)
|false=>k0 x1)
theorem zr4 (L2:Pp):LEQ (CQ L2) (e220 L2) Tryz.f220 PU:=λ_ _ _ _=>by kernel_rfl
def U0:Nat->Pp
 | 0=>λ_ _ _ _ _=>none
 | n+1=>λR x1 x2 x3 k0=>PU R x1 x2 x3 (λx1 x2 x3=>U0 n R x1 x2 x3 k0) k0
def p220 (L2:Pp):Qw:=λR a0 k=>
L2 R (0:Int) a0 (0:Int) (λx1=>
k x1)
theorem q220 (L2:Pp):EQ (TP (p220 L2)) (e220 L2) Tryz.f220 [(.tmp 2,47,false)]:=λ_ _ _=>by kernel_rfl
def F220:Qw:=p220 (U0 FUEL)
theorem zc4:LKP (CQ (U0 FUEL)) 0 16 2 Tryz.f220:=ST.lok (zr4 (U0 FUEL)) Dl [] trivial
theorem zb3:OKP (TP F220):=ST.ok1 (q220 (U0 FUEL)) Dl Tryz.func220 [2] ⟨⟨_,rfl,zc4⟩,trivial⟩
abbrev Wp:=(R:Type)->Int->Int->(Int->Option R)->Option R
def TJ (F:Wp):Ent:=eV 259 [(.int .u32),(.int .i64)] [(.int .u32)] F
abbrev ZS (Z:Type):=Int->Int->Int->Z
abbrev zhl (R:Type):=(Int->Option R)->Option R
abbrev Ph:=(R:Type)->ZS (zhl R)
def CH (L:Ph):LEnt:=lM 5 [.val 0 (.int .u32),.val 1 (.int .i64),.val 5 (.int .i64)] 0 [(.exit 0,[.val 0 (.int .u32)])] L
def e259 (L5:Ph):=sE 0 24 [] [] [CH L5]
def PK (R:Type):ZS (ZS (Option R)->zhl R):=λx1 x2 x3 kc k0=>
(match decide (x3<x2) with
|true=>kc (u32.wrap ((u32.wrap (Int.tdiv x1 (2:Int)))+(u32.wrap ((Int.tmod x1 (2:Int))*2147483648)))) x2 (i64.wrap (x3+1))
|false=>k0 x1)
theorem zru (L5:Ph):LEQ (CH L5) (e259 L5) Tryz.f259 PK:=λ_ _ _ _=>by kernel_rfl
def S4:Nat->Ph
 | 0=>λ_ _ _ _ _=>none
 | n+1=>λR x1 x2 x3 k0=>PK R x1 x2 x3 (λx1 x2 x3=>S4 n R x1 x2 x3 k0) k0
def p259 (L5:Ph):Wp:=λR a0 a1 k=>
let v1:=Int.tmod a1 (32:Int);(match decide (v1<0) with
|true=>L5 R a0 (i64.wrap (v1+32)) (0:Int) (λx4=>
k x4)
|false=>L5 R a0 v1 (0:Int) (λx5=>
k x5))
theorem q259 (L5:Ph):EQ (TJ (p259 L5)) (e259 L5) Tryz.f259 [(.tmp 4,47,false)]:=λ_ _ _=>by kernel_rfl
def F259:Wp:=p259 (S4 FUEL)
theorem zcu:LKP (CH (S4 FUEL)) 0 24 5 Tryz.f259:=ST.lok (zru (S4 FUEL)) Dl [] trivial
theorem zjw:OKP (TJ F259):=ST.ok1 (q259 (S4 FUEL)) Dl Tryz.func259 [5] ⟨⟨_,rfl,zcu⟩,trivial⟩
abbrev FQ:=(R:Type)->Int->Int->(Int->Option R)->Option R
def zel (F:FQ):Ent:=eV 260 [(.int .u32),(.int .i64)] [(.int .u32)] F
abbrev ZR (Z:Type):=Int->Int->Int->Z
abbrev zhk (R:Type):=(Int->Option R)->Option R
abbrev Pg:=(R:Type)->ZR (zhk R)
def CG (L:Pg):LEnt:=lM 4 [.val 0 (.int .u32),.val 1 (.int .i64),.val 5 (.int .i64)] 0 [(.exit 0,[.val 0 (.int .u32)])] L
def e260 (L4:Pg):=sE 0 16 [] [] [CG L4]
def PJ (R:Type):ZR (ZR (Option R)->zhk R):=λx1 x2 x3 kc k0=>
(match decide (x3<x2) with
|true=>kc (u32.wrap (Int.tdiv x1 (2:Int))) x2 (i64.wrap (x3+1))
|false=>k0 x1)
theorem zrt (L4:Pg):LEQ (CG L4) (e260 L4) Tryz.f260 PJ:=λ_ _ _ _=>by kernel_rfl
def S3:Nat->Pg
 | 0=>λ_ _ _ _ _=>none
 | n+1=>λR x1 x2 x3 k0=>PJ R x1 x2 x3 (λx1 x2 x3=>S3 n R x1 x2 x3 k0) k0
def p260 (L4:Pg):FQ:=λR a0 a1 k=>
(match decide (a1>31) with
|true=>k (0:Int)
|false=>L4 R a0 a1 (0:Int) (λx2=>
k x2))
theorem q260 (L4:Pg):EQ (zel (p260 L4)) (e260 L4) Tryz.f260 [(.tmp 4,47,false)]:=λ_ _ _=>by kernel_rfl
def F260:FQ:=p260 (S3 FUEL)
theorem zct:LKP (CG (S3 FUEL)) 0 16 4 Tryz.f260:=ST.lok (zrt (S3 FUEL)) Dl [] trivial
theorem zs7:OKP (zel F260):=ST.ok1 (q260 (S3 FUEL)) Dl Tryz.func260 [4] ⟨⟨_,rfl,zct⟩,trivial⟩
abbrev WE:=(R:Type)->Int->(Int->Option R)->Option R
def zln (F:WE):Ent:=eV 329 [(.int .u64)] [(.int .i64)] F
abbrev ZE (Z:Type):=Int->Int->Z
abbrev zg7 (R:Type):=(Int->Option R)->Option R
abbrev O6:=(R:Type)->ZE (zg7 R)
def BT (L:O6):LEnt:=lM 1 [.val 0 (.int .u64),.val 2 (.int .i64)] 0 [(.exit 0,[.val 2 (.int .i64)])] L
def e329 (L1:O6):=sE 0 10 [] [] [BT L1]
def HX (R:Type):ZE (ZE (Option R)->zg7 R):=λx1 x2 kc k0=>
(match x1 !=0 with
|true=>kc (ishr .u64 x1 (1:Int)) (i64.wrap (x2+1))
|false=>k0 x2)
theorem zrg (L1:O6):LEQ (BT L1) (e329 L1) Tryz.f329 HX:=λ_ _ _ _=>by kernel_rfl
def Qf:Nat->O6
 | 0=>λ_ _ _ _=>none
 | n+1=>λR x1 x2 k0=>HX R x1 x2 (λx1 x2=>Qf n R x1 x2 k0) k0
def p329 (L1:O6):WE:=λR a0 k=>
L1 R a0 (0:Int) (λx1=>
k x1)
theorem q329 (L1:O6):EQ (zln (p329 L1)) (e329 L1) Tryz.f329 [(.tmp 2,3,false)]:=λ_ _ _=>by kernel_rfl
def F329:WE:=p329 (Qf FUEL)
theorem zcg:LKP (BT (Qf FUEL)) 0 10 1 Tryz.f329:=ST.lok (zrg (Qf FUEL)) Dl [] trivial
theorem zya:OKP (zln F329):=ST.ok1 (q329 (Qf FUEL)) Dl Tryz.func329 [1] ⟨⟨_,rfl,zcg⟩,trivial⟩
abbrev EU:=(R:Type)->Int->Int->(Int->Option R)->Option R
def zd9 (F:EU):Ent:=eV 332 [(.int .u32),(.int .i64)] [(.int .u32)] F
def p332:EU:=λR a0 a1 k=>
let v2:=Int.tmod (u64.wrap a1) (32:Int);(match (decide (0<=v2)) with
|true=>let v4:=u64.wrap ((32:Int) - v2);(match (decide (0<=v4)) with
|true=>k (ior .u32 (ishr .u32 a0 v2) (ishl .u32 a0 v4))
|false=>none)
|false=>none)
theorem q332:EQ (zd9 p332) (sE 0 17 [] [] []) Tryz.f332 [(.tmp 4,47,false)]:=λ_ _ _=>by kernel_rfl
def F332:EU:=p332
theorem zsl:OKP (zd9 F332):=ST.ok0 q332 Dl Tryz.func332
abbrev WC:=(R:Type)->Int->Int->(Int->Option R)->Option R
def zll (F:WC):Ent:=eV 333 [(.int .u32),(.int .i64)] [(.int .u32)] F
def p333:WC:=λR a0 a1 k=>
let v2:=u64.wrap (if (0:Int)>a1 then (0:Int) else a1);(match (decide (0<=v2)) with
|true=>k (ishr .u32 a0 v2)
|false=>none)
theorem q333:EQ (zll p333) (sE 0 10 [] [] []) Tryz.f333 [(.tmp 4,47,false)]:=λ_ _ _=>by kernel_rfl
def F333:WC:=p333
theorem zx8:OKP (zll F333):=ST.ok0 q333 Dl Tryz.func333
abbrev FT86:=(R:Type)->Int->Int->Int->(Bool->Option R)->Option R
def en86 (F:FT86):Ent:=eV 86 [(.int .i64),(.int .i64),(.int .i64)] [.bool] F
def p86:FT86:=λR a0 a1 a2 k=>
(match decide (a0>=a1) with
|true=>k (decide (a0<=a2))
|false=>k false)
theorem q86:EQ (en86 p86) (sE 0 15 [] [] []) Tryz.f86 [(.tmp 6,4,false)]:=λ_ _ _=>by kernel_rfl
def F86:FT86:=p86
theorem ok86:OKP (en86 F86):=ST.ok0 q86 Dl Tryz.func86
abbrev FT58:=(R:Type)->Tq21->(Bool->Option R)->Option R
def en58 (F:FT58):Ent:=eV 58 [Kq21] [.bool] F
def p58 (F86:FT86):FT58:=λR a0 k=>
F86 R a0.1 (1:Int) (1024:Int) λy1=>
(match y1 with
|true=>F86 R a0.2.1 (0:Int) a0.1 λy2=>
(match y2 with
|true=>F86 R a0.2.2.1 (0:Int) (i64.wrap (a0.1 - a0.2.1)) λy4=>
(match y4 with
|true=>F86 R a0.2.2.2.1 (1:Int) (64:Int) λy5=>
(match y5 with
|true=>F86 R a0.2.2.2.2.1 (1:Int) (1048576:Int) λy6=>
k y6
|false=>k false)
|false=>k false)
|false=>k false)
|false=>k false)
theorem q58 (F86:FT86):EQ (en58 (p58 F86)) (sE 0 33 [] [en86 F86] []) Tryz.f58 [(.tmp 2,4,false)]:=λ_ _ _=>by kernel_rfl
def F58:FT58:=p58 F86
theorem ok58:OKP (en58 F58):=ST.ok0 (q58 F86) (Dk ok86 Dl) Tryz.func58
abbrev FT59:=(R:Type)->LI->(Tq24->Option R)->Option R
def en59 (F:FT59):Ent:=eV 59 [(.arr 32 (.int .u8))] [Kq24] F
def p59:FT59:=λR a0 k=>
k ((0:Int),a0,(replicate 32 (0:Int)),([]:(List Tq3)),())
theorem q59:EQ (en59 p59) (sE 0 5 [] [] []) Tryz.f59 [(.cell 2 35,35,false)]:=λ_ _ _=>by kernel_rfl
def F59:FT59:=p59
theorem ok59:OKP (en59 F59):=ST.ok0 q59 Dl Tryz.func59
abbrev GG:=(R:Type)->Int->Int->(Int->Int->Option R)->Option R
def ze0 (F:GG):Ent:=eV 120 [(.int .u64),(.int .u64)] [(.int .u64),(.int .u64)] F
def p120:GG:=λR a0 a1 k=>
let v1:=iand .u64 a0 (4294967295:Int);let v2:=ishr .u64 a0 (32:Int);let v3:=iand .u64 a1 (4294967295:Int);let v4:=ishr .u64 a1 (32:Int);let v8:=u64.wrap ((u64.wrap (v2*v3))+(ishr .u64 (u64.wrap (v1*v3)) (32:Int)));k (u64.wrap ((u64.wrap ((u64.wrap (v2*v4))+(ishr .u64 v8 (32:Int))))+(ishr .u64 (u64.wrap ((iand .u64 v8 (4294967295:Int))+(u64.wrap (v1*v4)))) (32:Int)))) (u64.wrap (a0*a1))
theorem q120:EQ (ze0 p120) (sE 0 51 [] [] []) Tryz.f120 [(.tmp 4,32,false),(.tmp 5,32,false)]:=λ_ _ _=>by kernel_rfl
def F120:GG:=p120
theorem zts:OKP (ze0 F120):=ST.ok0 q120 Dl Tryz.func120
abbrev FT87:=(R:Type)->Int->Int->(Int->Int->Option R)->Option R
def en87 (F:FT87):Ent:=eV 87 [(.int .u64),(.int .u64)] [(.int .u64),(.int .u64)] F
def p87 (F120:GG):FT87:=λR a0 a1 k=>
F120 R a0 a1 λy1 y2=>
k y1 y2
theorem q87 (F120:GG):EQ (en87 (p87 F120)) (sE 0 30 [] [ze0 F120] []) Tryz.f87 [(.tmp 4,117,false),(.tmp 5,117,false)]:=λ_ _ _=>by kernel_rfl
def F87:FT87:=p87 F120
theorem ok87:OKP (en87 F87):=ST.ok0 (q87 F120) (Dk zts Dl) Tryz.func87
abbrev FT60:=(R:Type)->LI->Int->(LI->Option R)->Option R
def en60 (F:FT60):Ent:=eV 60 [(.sl (.int .i64)),(.int .i64)] [(.sl (.int .i64))] F
abbrev zqq (Z:Type):=Int->LI->Z
abbrev zvx (R:Type):=(LI->Option R)->Option R
abbrev Uk:=(R:Type)->zqq (zvx R)
def RG (L:Uk):LEnt:=lM 8 [.fix 7 (.own 0 0),.val 8 (.int .i64),.row 0 (.int .i64) false] 1 [(.exit 0,[.fix 7 (.own 0 0),.row 0 (.int .i64) false])] L
def e60 (F87:FT87) (L8:Uk):=sE 0 48 [] [en87 F87] [RG L8]
def zjd (R:Type):zqq (zqq (Option R)->zvx R):=λx1 x2 kc k0=>
(match decide (x1<(x2.length:Int)) with
|true=>(match (decide (0<=x1/\x1<=(x2.length:Int)/\(x2.length:Int)<=(x2.length:Int)/\(x2.length:Int)<=(x2.length:Int))) with
|true=>(match (decide (0<=(0:Int)/\(0:Int)<=x1/\x1<=x1/\x1<=(x2.length:Int))) with
|true=>kc (i64.wrap (x1+((min (List.length (List.take (Int.toNat (x1 - 0)) (List.drop 0 x2))) (Int.toNat ((x2.length:Int) - x1)):Nat):Int))) (lay x2 x1.toNat (List.take (Int.toNat ((x2.length:Int) - x1)) (List.take (Int.toNat (x1 - 0)) (List.drop 0 x2))))
|false=>none)
|false=>none)
|false=>k0 x2)
theorem zxs (F87:FT87) (L8:Uk):LEQ (RG L8) (e60 F87 L8) Tryz.f60 zjd:=λ_ _ _ _=>by kernel_rfl
def EE:Nat->Uk
 | 0=>λ_ _ _ _=>none
 | n+1=>λR x1 x2 k0=>zjd R x1 x2 (λx1 x2=>EE n R x1 x2 k0) k0
def p60 (F87:FT87) (L8:Uk):FT60:=λR a0 a1 k=>
(match decide (a1<0) with
|true=>none
|false=>F87 R (u64.wrap (a0.length:Int)) (u64.wrap a1) λy5 y6=>
(match decide (y5>0) with
|true=>none
|false=>(match decide (y6>9223372036854775807) with
|true=>none
|false=>let v9:=i64.wrap y6;(match (decide (0<=v9/\v9<=v9/\v9<=17592186044416)) with
|true=>let v10:=replicate v9.toNat (0:Int);L8 R ((min (a0.length) (v10.length):Nat):Int) (lay v10 0 (List.take (v10.length) a0)) (λx12=>
k x12)
|false=>none))))
theorem q60 (F87:FT87) (L8:Uk):EQ (en60 (p60 F87 L8)) (e60 F87 L8) Tryz.f60 [(.tmp 4,36,false)]:=λ_ _ _=>by kernel_rfl
def F60:FT60:=p60 F87 (EE FUEL)
theorem zkk:LKP (RG (EE FUEL)) 0 48 8 Tryz.f60:=ST.lok (zxs F87 (EE FUEL)) (Dk ok87 Dl) [] trivial
theorem ok60:OKP (en60 F60):=ST.ok1 (q60 F87 (EE FUEL)) (Dk ok87 Dl) Tryz.func60 [8] ⟨⟨_,rfl,zkk⟩,trivial⟩
abbrev FT31:=(R:Type)->Tq21->LI->(Tq29->Int->Option R)->Option R
def en31 (F:FT31):Ent:=eV 31 [Kq21,(.arr 32 (.int .u8))] [Kq29,(.int .i64)] F
def p31 (F58:FT58) (F59:FT59) (F60:FT60):FT31:=λR a0 a1 k=>
F58 R a0 λy1=>
(match (!y1) with
|true=>k (((0:Int),(0:Int),(0:Int),(0:Int),(0:Int),()),(0:Int),([]:(List Tq5)),((0:Int),(replicate 32 (0:Int)),(replicate 32 (0:Int)),([]:(List Tq3)),()),([]:LI),([]:LI),()) (1:Int)
|false=>F59 R a1 λy2=>
F60 R ([(-1:Int)]:LI) a0.1 λy4=>
k (a0,(0:Int),([]:(List Tq5)),y2,y4,([]:LI),()) (0:Int))
theorem q31 (F58:FT58) (F59:FT59) (F60:FT60):EQ (en31 (p31 F58 F59 F60)) (sE 0 18 [] [en58 F58,en59 F59,en60 F60] []) Tryz.f31 [(.cell 4 38,38,false),(.tmp 5,40,false)]:=λ_ _ _=>by kernel_rfl
def F31:FT31:=p31 F58 F59 F60
theorem ok31:OKP (en31 F31):=ST.ok0 (q31 F58 F59 F60) (Dk ok58 (Dk ok59 (Dk ok60 Dl))) Tryz.func31
abbrev GF:Type 1:=(R:Type)->LI->(LI->Option R)->Option R
def znf (F:GF):Ent:=⟨169,[(false,(.sl (.int .u8)))],[(true,(.int .u8))],λR x k=>F R x.1 (λy1=>k (y1,()) ())⟩
def e169:Env (RT [(true,(.int .u8))]):=⟨TT,EQT,0,8,E2 [(2,0),(3,0)],λ_ _ _=>none,λ_ _ _=>none,[],Ep [],[],λ_ _ _ _=>none⟩
def F169:GF:=λR a0 k=>match decide (List.length ([]:LI)+a0.length<=140737488355328) with | true=>k a0 | false=>none
theorem ztr:(znf F169).OK Tryz.prog:=
 Ls (e:=(.int .u8)) e169 ⟨tabOK,eqOK,(λf b K r h=>by cases h),E7,Du,noYl⟩ mixed Tryz.func169 (body:=Ds Tryz.f169) (by kernel_rfl) (by kernel_rfl) (by kernel_rfl) (res:=[(.tmp 2,25,true)]) (by kernel_rfl) rfl (by decide) (by kernel_rfl) (lim:=140737488355328) (by kernel_rfl) (λl=>by kernel_rfl)
abbrev XV:=(R:Type)->(Tq7->Option R)->Option R
def zn3 (F:XV):Ent:=eV 121 [] [Kq7] F
def p121:XV:=λR k=>
k ((32:Int),(FnV.fn 168),(FnV.fn 170),())
theorem q121:EQ (zn3 p121) (sE 0 2 [] [] []) Tryz.f121 [(.cell 0 148,148,false)]:=λ_ _ _=>by kernel_rfl
def F121:XV:=p121
theorem zz4:OKP (zn3 F121):=ST.ok0 q121 Dl Tryz.func121
abbrev XU:=(R:Type)->(Tq7->Option R)->Option R
def zn2 (F:XU):Ent:=eV 122 [] [Kq7] F
def p122:XU:=λR k=>
k ((8:Int),(FnV.fn 171),(FnV.fn 172),())
theorem q122:EQ (zn2 p122) (sE 0 2 [] [] []) Tryz.f122 [(.cell 0 148,148,false)]:=λ_ _ _=>by kernel_rfl
def F122:XU:=p122
theorem zz3:OKP (zn2 F122):=ST.ok0 q122 Dl Tryz.func122
abbrev Ke:Type 1:=(R:Type)->(Tq7->Option R)->Option R
def I7 (F:Ke):EntF:=⟨174,175,[],[(false,Kq7)],λR x k=>F R  (λy1=>k (y1,()) ())⟩
def X1:List (ResultVar×TypeId×Bool):=[(.cell 2 148,148,false)]
def DN (R:Type):Env R:=⟨TT,EQT,0,6,E2 [],En [] R,Et [] R,[],Ep [],[],λ_ _ _ _=>none⟩
def BD:Ke:=λR k=>
k ((4:Int),(FnV.clo 217 (FnV.fn 175)),(FnV.clo 219 (FnV.fn 175)),())
theorem ziz (F:Ke) (R:Type) (x:AT (I7 F).ins) (k:RT (I7 F).outs->PT (I7 F).ins->Option R):
 xfun (DN R) (Ds Tryz.f174) X1 (avs (I7 F).ins x++[AV.fn 175]) (finK (I7 F).outs (I7 F).ins k)=BD R  (λy1=>k (y1,()) ()):=by kernel_rfl
def He:Ke:=BD
theorem TA (R:Type):D7 Tryz.prog (DN R):=⟨tabOK,eqOK,Dz Dl,E7,Du,noYl⟩
theorem zb6:(I7 He).OK Tryz.prog:=
 Mo (Ef:=λR=>DN R) (λR=>TA R) mixed Tryz.func174 (body:=Ds Tryz.f174) (by kernel_rfl) (by kernel_rfl) (np:=0) (nt:=6) (λ_=>rfl) (λ_=>rfl) (by kernel_rfl) (res:=X1) (by kernel_rfl) (λ_=>rfl) (λ_=>Bj rfl) (by
  intro R;rw [show Dy (Ds Tryz.f174)=[] from by kernel_rfl];exact E3) (λR x k=>ziz He R x k)
abbrev XT:=(R:Type)->(Tq7->Option R)->Option R
def zn1 (F:XT):Ent:=eV 123 [] [Kq7] F
def e123 (He:Ke) (R:Type):Env R:=⟨TT,EQT,0,2,E2 [],Hx [I7 He] [] R,Et [] R,[],Ep [],[],λ_ _ _ _=>none⟩
def p123 (He:Ke):XT:=λR k=>
He R  λy1=>
k y1
theorem q123 (He:Ke):EQ (zn1 (p123 He)) (e123 He) Tryz.f123 [(.cell 0 148,148,false)]:=λ_ _ _=>by kernel_rfl
def F123:XT:=p123 He
theorem zuf (R:Type):D7 Tryz.prog (e123 He R):=⟨tabOK,eqOK,F0 (Iw zb6 H5) Dl,E7,Du,noYl⟩
theorem zz2:OKP (zn1 F123):=ST.ok3 (q123 He) zuf Tryz.func123 (λ_=>rfl) (λ_=>rfl) (λ_=>rfl) [] trivial
abbrev Kc:Type 1:=(R:Type)->(Tq7->Option R)->Option R
def I6 (F:Kc):EntF:=⟨174,176,[],[(false,Kq7)],λR x k=>F R  (λy1=>k (y1,()) ())⟩
def X0:List (ResultVar×TypeId×Bool):=[(.cell 2 148,148,false)]
def DM (R:Type):Env R:=⟨TT,EQT,0,6,E2 [],En [] R,Et [] R,[],Ep [],[],λ_ _ _ _=>none⟩
def BC:Kc:=λR k=>
k ((4:Int),(FnV.clo 217 (FnV.fn 176)),(FnV.clo 219 (FnV.fn 176)),())
theorem ziy (F:Kc) (R:Type) (x:AT (I6 F).ins) (k:RT (I6 F).outs->PT (I6 F).ins->Option R):
 xfun (DM R) (Ds Tryz.f174) X0 (avs (I6 F).ins x++[AV.fn 176]) (finK (I6 F).outs (I6 F).ins k)=BC R  (λy1=>k (y1,()) ()):=by kernel_rfl
def Hd:Kc:=BC
theorem SZ (R:Type):D7 Tryz.prog (DM R):=⟨tabOK,eqOK,Dz Dl,E7,Du,noYl⟩
theorem zb5:(I6 Hd).OK Tryz.prog:=
 Mo (Ef:=λR=>DM R) (λR=>SZ R) mixed Tryz.func174 (body:=Ds Tryz.f174) (by kernel_rfl) (by kernel_rfl) (np:=0) (nt:=6) (λ_=>rfl) (λ_=>rfl) (by kernel_rfl) (res:=X0) (by kernel_rfl) (λ_=>rfl) (λ_=>Bj rfl) (by
  intro R;rw [show Dy (Ds Tryz.f174)=[] from by kernel_rfl];exact E3) (λR x k=>ziy Hd R x k)
abbrev XS:=(R:Type)->(Tq7->Option R)->Option R
def zn0 (F:XS):Ent:=eV 124 [] [Kq7] F
def e124 (Hd:Kc) (R:Type):Env R:=⟨TT,EQT,0,2,E2 [],Hx [I6 Hd] [] R,Et [] R,[],Ep [],[],λ_ _ _ _=>none⟩
def p124 (Hd:Kc):XS:=λR k=>
Hd R  λy1=>
k y1
theorem q124 (Hd:Kc):EQ (zn0 (p124 Hd)) (e124 Hd) Tryz.f124 [(.cell 0 148,148,false)]:=λ_ _ _=>by kernel_rfl
def F124:XS:=p124 Hd
theorem zue (R:Type):D7 Tryz.prog (e124 Hd R):=⟨tabOK,eqOK,F0 (Iw zb5 H5) Dl,E7,Du,noYl⟩
theorem zz1:OKP (zn0 F124):=ST.ok3 (q124 Hd) zue Tryz.func124 (λ_=>rfl) (λ_=>rfl) (λ_=>rfl) [] trivial
abbrev FT88:=(R:Type)->Int->((List Tq7)->Bool->Option R)->Option R
def en88 (F:FT88):Ent:=eV 88 [(.int .i64)] [(.sl Kq7),.bool] F
def p88 (F121:XV) (F122:XU) (F123:XT) (F124:XS):FT88:=λR a0 k=>
(match a0==1 with
|true=>F121 R  λy2=>
F122 R  λy3=>
k ([y2,y3]:(List Tq7)) true
|false=>(match a0==2 with
|true=>F123 R  λy6=>
F122 R  λy7=>
k ([y6,y7]:(List Tq7)) true
|false=>(match a0==3 with
|true=>F123 R  λy10=>
F122 R  λy11=>
k ([y10,y11]:(List Tq7)) true
|false=>(match a0==4 with
|true=>F123 R  λy14=>
F121 R  λy15=>
k ([y14,y15]:(List Tq7)) true
|false=>(match a0==5 with
|true=>F123 R  λy18=>
F121 R  λy19=>
k ([y18,y19]:(List Tq7)) true
|false=>(match a0==6 with
|true=>k ([]:(List Tq7)) true
|false=>(match a0==11 with
|true=>k ([]:(List Tq7)) true
|false=>(match a0==7 with
|true=>F124 R  λy24=>
k ([y24]:(List Tq7)) true
|false=>(match a0==8 with
|true=>F124 R  λy27=>
k ([y27]:(List Tq7)) true
|false=>(match a0==9 with
|true=>F124 R  λy30=>
F123 R  λy31=>
k ([y30,y31]:(List Tq7)) true
|false=>(match a0==10 with
|true=>F123 R  λy34=>
F124 R  λy35=>
k ([y34,y35]:(List Tq7)) true
|false=>k ([]:(List Tq7)) false)))))))))))
theorem q88 (F121:XV) (F122:XU) (F123:XT) (F124:XS):EQ (en88 (p88 F121 F122 F123 F124)) (sE 0 40 [] [zn3 F121,zn2 F122,zn1 F123,zn0 F124] []) Tryz.f88 [(.tmp 2,143,false),(.tmp 3,4,false)]:=λ_ _ _=>by kernel_rfl
def F88:FT88:=p88 F121 F122 F123 F124
theorem ok88:OKP (en88 F88):=ST.ok0 (q88 F121 F122 F123 F124) (Dk zz4 (Dk zz3 (Dk zz2 (Dk zz1 Dl)))) Tryz.func88
abbrev XR:=(R:Type)->Int->(Int->Bool->Option R)->Option R
def znz (F:XR):Ent:=eV 125 [(.int .i64)] [(.int .i64),.bool] F
abbrev zaq (Z:Type):=Int->(List Tq7)->Int->Int->Z
abbrev zh2 (R:Type):=(Int->Option R)->Option R
abbrev Pv:=(R:Type)->zaq (zh2 R)
def CY (L:Pv):LEnt:=lM 6 [.val 6 (.int .i64),.val 16 (.sl Kq7),.val 17 (.int .i64),.val 18 (.int .i64)] 0 [(.exit 0,[.val 6 (.int .i64)])] L
def e125 (F88:FT88) (L6:Pv):=sE 0 28 [] [en88 F88] [CY L6]
def QB (R:Type):zaq (zaq (Option R)->zh2 R):=λx1 x2 x3 x4 kc k0=>
(match decide (x4<x3) with
|true=>(match bnd x4 x2.length with
|true=>let v6:=x2.getD x4.toNat (0,FnV.nil,FnV.nil,());kc (i64.wrap (x1+v6.1)) x2 x3 (i64.wrap (x4+1))
|false=>none)
|false=>k0 x1)
theorem zsc (F88:FT88) (L6:Pv):LEQ (CY L6) (e125 F88 L6) Tryz.f125 QB:=λ_ _ _ _=>by kernel_rfl
def Te:Nat->Pv
 | 0=>λ_ _ _ _ _ _=>none
 | n+1=>λR x1 x2 x3 x4 k0=>QB R x1 x2 x3 x4 (λx1 x2 x3 x4=>Te n R x1 x2 x3 x4 k0) k0
def p125 (F88:FT88) (L6:Pv):XR:=λR a0 k=>
F88 R a0 λy1 y2=>
(match (!y2) with
|true=>k (0:Int) false
|false=>L6 R (1:Int) y1 (y1.length:Int) (0:Int) (λx4=>
k x4 true))
theorem q125 (F88:FT88) (L6:Pv):EQ (znz (p125 F88 L6)) (e125 F88 L6) Tryz.f125 [(.tmp 2,3,false),(.tmp 3,4,false)]:=λ_ _ _=>by kernel_rfl
def F125:XR:=p125 F88 (Te FUEL)
theorem zdc:LKP (CY (Te FUEL)) 0 28 6 Tryz.f125:=ST.lok (zsc F88 (Te FUEL)) (Dk ok88 Dl) [] trivial
theorem zz0:OKP (znz F125):=ST.ok1 (q125 F88 (Te FUEL)) (Dk ok88 Dl) Tryz.func125 [6] ⟨⟨_,rfl,zdc⟩,trivial⟩
abbrev FT89:=(R:Type)->LI->(Bool->Option R)->Option R
def en89 (F:FT89):Ent:=eV 89 [(.sl (.int .u8))] [.bool] F
def p89 (F125:XR):FT89:=λR a0 k=>
(match bnd 0 a0.length with
|true=>F125 R (i64.wrap (a0.getD 0 0)) λy3 y4=>
(match (!y4) with
|true=>k true
|false=>k (decide (y3<=(a0.length:Int))))
|false=>none)
theorem q89 (F125:XR):EQ (en89 (p89 F125)) (sE 0 21 [] [znz F125] []) Tryz.f89 [(.tmp 2,4,false)]:=λ_ _ _=>by kernel_rfl
def F89:FT89:=p89 F125
theorem ok89:OKP (en89 F89):=ST.ok0 (q89 F125) (Dk zz0 Dl) Tryz.func89
abbrev FT61:=(R:Type)->LI->(Tq11->LI->Option R)->Option R
def en61 (F:FT61):Ent:=eV 61 [(.sl (.int .u8))] [Kq11,(.sl (.int .u8))] F
abbrev ZD (Z:Type):=LI->(List Tq7)->Int->Int->Tq11->Tq11->Z
abbrev zg6 (R:Type):=(LI->Tq11->Tq11->Option R)->Option R
abbrev O5:=(R:Type)->ZD (zg6 R)
def BS (L:O5):LEnt:=lM 10 [.val 0 (.sl (.int .u8)),.fix 2 (.ptr 0 [] Kq11),.fix 7 (.ptr 1 [] Kq11),.val 36 (.sl Kq7),.val 37 (.int .i64),.val 38 (.int .i64),.var 0 Kq11 false,.var 1 Kq11 false] 2 [(.exit 1,[.val 0 (.sl (.int .u8)),.fix 2 (.ptr 0 [] Kq11),.fix 7 (.ptr 1 [] Kq11),.var 0 Kq11 false,.var 1 Kq11 false])] L
def zgf (R:Type):Env R:=⟨TT,EQT,0,10,E2 [],En [] R,λ_ _ _=>none,[],Ep [],[],λ_ _ _ _=>none⟩
theorem zd6 (R:Type):D7 Tryz.prog (zgf R):=⟨tabOK,eqOK,Dz Dl,E7,Du,noYl⟩
def zgd (F173:zab) (R:Type):Env R:=⟨TT,EQT,0,11,E2 [],En [zez F173] R,λ_ _ _=>none,[],Ep [],[],λ_ _ _ _=>none⟩
theorem zd4 (R:Type):D7 Tryz.prog (zgd F173 R):=⟨tabOK,eqOK,Dz (Dk ztq Dl),E7,Du,noYl⟩
def TY (R:Type):Env R:=⟨TT,EQT,0,6,E2 [],En [] R,λ_ _ _=>none,[],Ep [],[],λ_ _ _ _=>none⟩
theorem JB (R:Type):D7 Tryz.prog (TY R):=⟨tabOK,eqOK,Dz Dl,E7,Du,noYl⟩
def TX (R:Type):Env R:=⟨TT,EQT,0,6,E2 [],En [] R,λ_ _ _=>none,[],Ep [],[],λ_ _ _ _=>none⟩
theorem JA (R:Type):D7 Tryz.prog (TX R):=⟨tabOK,eqOK,Dz Dl,E7,Du,noYl⟩
def zgb (F220:Qw) (R:Type):Env R:=⟨TT,EQT,0,14,E2 [(0,2)],En [TP F220] R,λ_ _ _=>none,[],Ep [(175,xinl (TY R) (Ds Tryz.f175) [.tmp 2] 1),(176,xinl (TX R) (Ds Tryz.f176) [.tmp 2] 1)],[(FnV.fn 175),(FnV.fn 176)],λ_ _ _ _=>none⟩
theorem zd2 (R:Type):D7 Tryz.prog (zgb F220 R):=⟨tabOK,eqOK,Dz (Dk zb3 Dl),E7,(Ed (El (JB R) mixed Tryz.func175 (body:=Ds Tryz.f175) (by kernel_rfl) (by kernel_rfl) (by kernel_rfl) (res:=[.tmp 2]) (by kernel_rfl) (n:=1) (Bj rfl) (by kernel_rfl)) (Ed (El (JA R) mixed Tryz.func176 (body:=Ds Tryz.f176) (by kernel_rfl) (by kernel_rfl) (by kernel_rfl) (res:=[.tmp 2]) (by kernel_rfl) (n:=1) (Bj rfl) (by kernel_rfl)) Du)),noYl⟩
def e61 (F88:FT88) (F89:FT89) (F173:zab) (F220:Qw) (L10:O5) (R:Type):Env R:=⟨TT,EQT,0,56,E2 [(12,6)],En [en88 F88,en89 F89,zez F173,TP F220] R,Et [BS L10] R,[],Ep [(170,xinl (zgf R) (Ds Tryz.f170) [] 2),(172,xinl (zgd F173 R) (Ds Tryz.f172) [] 2),(219,xinl (zgb F220 R) (Ds Tryz.f219) [] 3)],[(FnV.fn 170),(FnV.fn 172),(FnV.clo 219 (FnV.fn 175)),(FnV.clo 219 (FnV.fn 176))],λ_ _ _ _=>none⟩
def X9 (F173:zab) (F220:Qw) (R:Type):ZD (ZD (Option R)->zg6 R):=λx1 x2 x3 x4 x5 x6 kc k0=>
(match decide (x4<x3) with
|true=>(match bnd x4 x2.length with
|true=>let v8:=x2.getD x4.toNat (0,FnV.nil,FnV.nil,());(match (decide (0<=(0:Int)/\(0:Int)<=v8.1/\v8.1<=v8.1/\v8.1<=(x1.length:Int))) with
|true=>let v9:=List.take (Int.toNat (v8.1 - 0)) (List.drop 0 x1);(match (FnV.same v8.2.2.1 (FnV.fn 170)) with
|true=>(match (decide ((32:Int)<=(v9.length:Int))) with
|true=>(match (decide (0<=v8.1/\v8.1<=(x1.length:Int)/\(x1.length:Int)<=(x1.length:Int)/\(x1.length:Int)<=(x1.length:Int))) with
|true=>kc (List.take (Int.toNat ((x1.length:Int) - v8.1)) (List.drop v8.1.toNat x1)) x2 x3 (i64.wrap (x4+1)) x5 (x6.1,x6.2.1,x6.2.2.1,(List.take 32 v9),x6.2.2.2.2)
|false=>none)
|false=>none)
|false=>(match (FnV.same v8.2.2.1 (FnV.fn 172)) with
|true=>(match (decide ((8:Int)<=(v9.length:Int))) with
|true=>F173 R (List.take 8 v9) λy14=>
(match (decide (0<=v8.1/\v8.1<=(x1.length:Int)/\(x1.length:Int)<=(x1.length:Int)/\(x1.length:Int)<=(x1.length:Int))) with
|true=>kc (List.take (Int.toNat ((x1.length:Int) - v8.1)) (List.drop v8.1.toNat x1)) x2 x3 (i64.wrap (x4+1)) x5 (x6.1,x6.2.1,y14,x6.2.2.2.1,x6.2.2.2.2)
|false=>none)
|false=>none)
|false=>(match (FnV.same v8.2.2.1 (FnV.clo 219 (FnV.fn 175))) with
|true=>(match (decide ((4:Int)<=(v9.length:Int))) with
|true=>F220 R (List.take 4 v9) λy18=>
(match (decide (0<=v8.1/\v8.1<=(x1.length:Int)/\(x1.length:Int)<=(x1.length:Int)/\(x1.length:Int)<=(x1.length:Int))) with
|true=>kc (List.take (Int.toNat ((x1.length:Int) - v8.1)) (List.drop v8.1.toNat x1)) x2 x3 (i64.wrap (x4+1)) x5 (x6.1,(i64.wrap y18),x6.2.2.1,x6.2.2.2.1,x6.2.2.2.2)
|false=>none)
|false=>none)
|false=>(match (FnV.same v8.2.2.1 (FnV.clo 219 (FnV.fn 176))) with
|true=>(match (decide ((4:Int)<=(v9.length:Int))) with
|true=>F220 R (List.take 4 v9) λy23=>
(match (decide (0<=v8.1/\v8.1<=(x1.length:Int)/\(x1.length:Int)<=(x1.length:Int)/\(x1.length:Int)<=(x1.length:Int))) with
|true=>kc (List.take (Int.toNat ((x1.length:Int) - v8.1)) (List.drop v8.1.toNat x1)) x2 x3 (i64.wrap (x4+1)) x5 (x6.1,x6.2.1,x6.2.2.1,x6.2.2.2.1,(i64.wrap y23),x6.2.2.2.2.2)
|false=>none)
|false=>none)
|false=>none))))
|false=>none)
|false=>none)
|false=>k0 x1 x5 x6)
theorem zrf (F88:FT88) (F89:FT89) (F173:zab) (F220:Qw) (L10:O5):LEQ (BS L10) (e61 F88 F89 F173 F220 L10) Tryz.f61 (X9 F173 F220):=λ_ _ _ _=>by kernel_rfl
def Lb:Nat->O5
 | 0=>λ_ _ _ _ _ _ _ _=>none
 | n+1=>λR x1 x2 x3 x4 x5 x6 k0=>X9 F173 F220 R x1 x2 x3 x4 x5 x6 (λx1 x2 x3 x4 x5 x6=>Lb n R x1 x2 x3 x4 x5 x6 k0) k0
def p61 (F88:FT88) (F89:FT89) (L10:O5):FT61:=λR a0 k=>
(match bnd 0 a0.length with
|true=>let v2:=i64.wrap (a0.getD 0 0);F88 R v2 λy3 y4=>
(match (!y4) with
|true=>(match (decide (0<=(1:Int)/\(1:Int)<=(a0.length:Int)/\(a0.length:Int)<=(a0.length:Int)/\(a0.length:Int)<=(a0.length:Int))) with
|true=>k ((0:Int),(0:Int),(0:Int),(replicate 32 (0:Int)),v2,()) (List.take (Int.toNat ((a0.length:Int) - (1:Int))) (List.drop 1 a0))
|false=>none)
|false=>F89 R a0 λy6=>
(match (!y6) with
|true=>k ((0:Int),(0:Int),(0:Int),(replicate 32 (0:Int)),v2,()) ([]:LI)
|false=>(match (decide (0<=(1:Int)/\(1:Int)<=(a0.length:Int)/\(a0.length:Int)<=(a0.length:Int)/\(a0.length:Int)<=(a0.length:Int))) with
|true=>L10 R (List.take (Int.toNat ((a0.length:Int) - (1:Int))) (List.drop 1 a0)) y3 (y3.length:Int) (0:Int) ((0:Int),(0:Int),(0:Int),(replicate 32 (0:Int)),(0:Int),()) (v2,(0:Int),(0:Int),(replicate 32 (0:Int)),(0:Int),()) (λx9 x10 x11=>
k x11 x9)
|false=>none)))
|false=>none)
theorem q61 (F88:FT88) (F89:FT89) (F173:zab) (F220:Qw) (L10:O5):EQ (en61 (p61 F88 F89 L10)) (e61 F88 F89 F173 F220 L10) Tryz.f61 [(.cell 2 69,69,false),(.tmp 3,25,false)]:=λ_ _ _=>by kernel_rfl
def F61:FT61:=p61 F88 F89 (Lb FUEL)
theorem zt4 (R:Type):D7 Tryz.prog (e61 F88 F89 F173 F220 (Lb FUEL) R):=⟨tabOK,eqOK,Dz (Dk ok88 (Dk ok89 (Dk ztq (Dk zb3 Dl)))),E7,(Ed (El (zd6 R) mixed Tryz.func170 (body:=Ds Tryz.f170) (by kernel_rfl) (by kernel_rfl) (by kernel_rfl) (res:=[]) (by kernel_rfl) (n:=2) (Bj rfl) (by kernel_rfl)) (Ed (El (zd4 R) mixed Tryz.func172 (body:=Ds Tryz.f172) (by kernel_rfl) (by kernel_rfl) (by kernel_rfl) (res:=[]) (by kernel_rfl) (n:=2) (Bj rfl) (by kernel_rfl)) (Ed (El (zd2 R) mixed Tryz.func219 (body:=Ds Tryz.f219) (by kernel_rfl) (by kernel_rfl) (by kernel_rfl) (res:=[]) (by kernel_rfl) (n:=3) (Bj rfl) (by kernel_rfl)) Du))),noYl⟩
theorem zcf:LKP (BS (Lb FUEL)) 0 56 10 Tryz.f61:=ST.lok3 (zrf F88 F89 F173 F220 (Lb FUEL)) zt4 (λ_=>rfl) (λ_=>rfl) (λ_=>rfl) [] trivial
theorem ok61:OKP (en61 F61):=ST.ok3 (q61 F88 F89 F173 F220 (Lb FUEL)) zt4 Tryz.func61 (λ_=>rfl) (λ_=>rfl) (λ_=>rfl) [10] ⟨⟨_,rfl,zcf⟩,trivial⟩
abbrev FT32:=(R:Type)->LI->((List Tq11)->Option R)->Option R
def en32 (F:FT32):Ent:=eV 32 [(.sl (.int .u8))] [(.sl Kq11)] F
abbrev zqx (Z:Type):=LI->(List Tq11)->Z
abbrev zv4 (R:Type):=((List Tq11)->Option R)->Option R
abbrev Ur:=(R:Type)->zqx (zv4 R)
def RO (L:Ur):LEnt:=lM 1 [.val 0 (.sl (.int .u8)),.fix 2 (.own 0 0),.row 0 Kq11 false] 1 [(.exit 0,[.fix 2 (.own 0 0),.row 0 Kq11 false])] L
def e32 (F61:FT61) (L1:Ur):=sE 0 19 [(0,0)] [en61 F61] [RO L1]
def zbv (F61:FT61) (R:Type):zqx (zqx (Option R)->zv4 R):=λx1 x2 kc k0=>
(match decide ((x1.length:Int)>0) with
|true=>F61 R x1 λy5 y6=>
let v7:=([y5]:(List Tq11));(match (decide (x2.length+v7.length<=2199023255552)) with
|true=>kc y6 (x2++v7)
|false=>none)
|false=>k0 x2)
theorem zxz (F61:FT61) (L1:Ur):LEQ (RO L1) (e32 F61 L1) Tryz.f32 (zbv F61):=λ_ _ _ _=>by kernel_rfl
def Zp:Nat->Ur
 | 0=>λ_ _ _ _=>none
 | n+1=>λR x1 x2 k0=>zbv F61 R x1 x2 (λx1 x2=>Zp n R x1 x2 k0) k0
def p32 (L1:Ur):FT32:=λR a0 k=>
L1 R a0 ([]:(List Tq11)) (λx1=>
k x1)
theorem q32 (F61:FT61) (L1:Ur):EQ (en32 (p32 L1)) (e32 F61 L1) Tryz.f32 [(.tmp 2,27,false)]:=λ_ _ _=>by kernel_rfl
def F32:FT32:=p32 (Zp FUEL)
theorem zkr:LKP (RO (Zp FUEL)) 0 19 1 Tryz.f32:=ST.lok (zxz F61 (Zp FUEL)) (Dk ok61 Dl) [] trivial
theorem ok32:OKP (en32 F32):=ST.ok1 (q32 F61 (Zp FUEL)) (Dk ok61 Dl) Tryz.func32 [1] ⟨⟨_,rfl,zkr⟩,trivial⟩
abbrev FT:=(R:Type)->Tq5->(Int->Option R)->Option R
def zmr (F:FT):Ent:=eV 242 [Kq5] [(.int .u64)] F
def p242:FT:=λR a0 k=>
k a0.2.1
theorem q242:EQ (zmr p242) (sE 0 5 [] [] []) Tryz.f242 [(.tmp 2,32,false)]:=λ_ _ _=>by kernel_rfl
def F242:FT:=p242
theorem zyy:OKP (zmr F242):=ST.ok0 q242 Dl Tryz.func242
abbrev Kb:Type 1:=(R:Type)->(List Tq5)->(LI->Option R)->Option R
def I5 (F:Kb):EntF:=⟨241,242,[(false,(.sl Kq5))],[(false,(.sl (.int .u64)))],λR x k=>F R x.1 (λy1=>k (y1,()) ())⟩
def Xz:List (ResultVar×TypeId×Bool):=[(.tmp 4,182,false)]
abbrev Ii:Type 1:=(R:Type)->(List Tq5)->Int->Int->LI->(LI->Option R)->Option R
def Ex (L:Ii):LEnt:=⟨3,[.fix 1 (.fn 242),.fix 5 (.own 0 0),.val 11 (.sl Kq5),.val 12 (.int .i64),.val 13 (.int .i64),.row 0 (.int .u64) false],1,[(.exit 0,[.fix 5 (.own 0 0),.row 0 (.int .u64) false])],λR x ke=>L R x.1 x.2.1 x.2.2.1 x.2.2.2.1 (λy1=>ke.1 (y1,()))⟩
def Sa (F242:FT) (L3:Ii) (R:Type):Env R:=⟨TT,EQT,0,25,E2 [],En [zmr F242] R,Et [Ex L3] R,[],Ep [],[],λ_ _ _ _=>none⟩
def Nh (F242:FT):(R:Type)->(List Tq5)->Int->Int->LI->((List Tq5)->Int->Int->LI->Option R)->(LI->Option R)->Option R:=λR x1 x2 x3 x4 kc k0=>
(match decide (x3<x2) with
|true=>(match bnd x3 x1.length with
|true=>F242 R (x1.getD x3.toNat ((replicate 32 0),0,0,())) λy7=>
let v8:=([y7]:LI);(match (decide (x4.length+v8.length<=17592186044416)) with
|true=>kc x1 x2 (i64.wrap (x3+1)) (x4++v8)
|false=>none)
|false=>none)
|false=>k0 x4)
theorem OO (F242:FT) (L3:Ii) (R:Type) (x:HT (Ex L3).H) (kc:HT (Ex L3).H->Option R) (ke:KT R (Ex L3).exs):
 exec (Sa F242 L3 R) (Fu 3 (Ds Tryz.f241)) (stOf (Ex L3).H x 1) (P3 (Ex L3).H (Ex L3).exs kc ke)=
  Nh F242 R x.1 x.2.1 x.2.2.1 x.2.2.2.1 (λx1 x2 x3 x4=>kc (x1,x2,x3,x4,())) (λy1=>ke.1 (y1,())):=by kernel_rfl
def Ek:Nat->Ii
 | 0=>λ_ _ _ _ _ _=>none
 | n+1=>λR x1 x2 x3 x4 k0=>Nh F242 R x1 x2 x3 x4 (λx1 x2 x3 x4=>Ek n R x1 x2 x3 x4 k0) k0
def BB (L3:Ii):Kb:=λR a0 k=>
let v1:=(a0.length:Int);(match (decide (0<=(0:Int)/\(0:Int)<=v1/\v1<=17592186044416)) with
|true=>L3 R a0 (a0.length:Int) (0:Int) (replicate 0 (0:Int)) (λx4=>
k x4)
|false=>none)
theorem zix (F242:FT) (L3:Ii) (F:Kb) (R:Type) (x:AT (I5 F).ins) (k:RT (I5 F).outs->PT (I5 F).ins->Option R):
 xfun (Sa F242 L3 R) (Ds Tryz.f241) Xz (avs (I5 F).ins x++[AV.fn 242]) (finK (I5 F).outs (I5 F).ins k)=BB L3 R x.1 (λy1=>k (y1,()) ()):=by kernel_rfl
def Hc:Kb:=BB (Ek FUEL)
theorem Yv (R:Type):D7 Tryz.prog (Sa F242 (Ek FUEL) R):=⟨tabOK,eqOK,Dz (Dk zyy Dl),E7,Du,noYl⟩
def La:(R:Type)->HT (Ex (Ek FUEL)).H->(HT (Ex (Ek FUEL)).H->Option R)->KT R (Ex (Ek FUEL)).exs->Option R:=λR x kc ke=>Nh F242 R x.1 x.2.1 x.2.2.1 x.2.2.2.1 (λx1 x2 x3 x4=>kc (x1,x2,x3,x4,())) (λy1=>ke.1 (y1,()))
theorem LJ:∀(n:Nat) (R:Type) (x:HT (Ex (Ek FUEL)).H) (ke:KT R (Ex (Ek FUEL)).exs),iter La n R x ke=Ek n R x.1 x.2.1 x.2.2.1 x.2.2.2.1 (λy1=>ke.1 (y1,())):=by
 intro n
 induction n with
 | zero=>intro R x ke; rfl
 | succ n ih=>
  intro R x ke;show La R x (λx'=>iter La n R x' ke) ke=_
  rw [show (λx'=>iter La n R x' ke)=λx=>Ek n R x.1 x.2.1 x.2.2.1 x.2.2.2.1 (λy1=>ke.1 (y1,())) from funext λx'=>ih R x' ke];rfl
theorem BR:(Ex (Ek FUEL)).OK Tryz.prog 0 25 (Fu 3 (Ds Tryz.f241)):=⟨⟨λ_ h=>(by cases h),by kernel_rfl⟩,λR x ke r h=>
 Ib (λR=>Sa F242 (Ek FUEL) R) 0 25 (λ_=>rfl) (λ_=>rfl) (λR=>Yv R) mixed (by
  intro R;rw [show Dy (Fu 3 (Ds Tryz.f241))=[] from by kernel_rfl];exact E3) (λ_ h=>(by cases h)) (Rt (by kernel_rfl)) (T:=La) (λR x kc ke=>OO F242 (Ek FUEL) R x kc ke) FUEL R x ke r ((LJ FUEL R x ke).trans h)⟩
theorem zb2:(I5 Hc).OK Tryz.prog:=
 Mo (Ef:=λR=>Sa F242 (Ek FUEL) R) (λR=>Yv R) mixed Tryz.func241 (body:=Ds Tryz.f241) (by kernel_rfl) (by kernel_rfl) (np:=0) (nt:=25) (λ_=>rfl) (λ_=>rfl) (by kernel_rfl) (res:=Xz) (by kernel_rfl) (λ_=>rfl) (λ_=>Bj rfl) (by
  intro R;rw [show Dy (Ds Tryz.f241)=[Fu 3 (Ds Tryz.f241)] from by kernel_rfl];exact (Dp (Lq (e:=Ex (Ek FUEL)) rfl rfl BR) E3)) (λR x k=>zix F242 (Ek FUEL) Hc R x k)
abbrev N8:=(R:Type)->(List Tq5)->(LI->Option R)->Option R
def DJ (F:N8):Ent:=eV 190 [(.sl Kq5)] [(.sl (.int .u64))] F
def e190 (Hc:Kb) (R:Type):Env R:=⟨TT,EQT,0,5,E2 [],Hx [I5 Hc] [] R,Et [] R,[],Ep [],[],λ_ _ _ _=>none⟩
def p190 (Hc:Kb):N8:=λR a0 k=>
Hc R a0 λy1=>
k y1
theorem q190 (Hc:Kb):EQ (DJ (p190 Hc)) (e190 Hc) Tryz.f190 [(.tmp 2,182,false)]:=λ_ _ _=>by kernel_rfl
def F190:N8:=p190 Hc
theorem zt9 (R:Type):D7 Tryz.prog (e190 Hc R):=⟨tabOK,eqOK,F0 (Iw zb2 H5) Dl,E7,Du,noYl⟩
theorem QL:OKP (DJ F190):=ST.ok3 (q190 Hc) zt9 Tryz.func190 (λ_=>rfl) (λ_=>rfl) (λ_=>rfl) [] trivial
abbrev zff:Type 1:=(R:Type)->Int->Int->Int->(Int->Int->Option R)->Option R
def zuj (F:zff):Ent:=⟨263,[(false,(.int .u64)),(false,(.int .u64)),(false,(.int .u64))],[(false,(.int .u64)),(false,(.int .u64))],λR x k=>F R x.1 x.2.1 x.2.2.1 (λy1 y2=>k (y1,y2,()) ())⟩
def F263:zff:=λR a0 a1 a2 k=>match decide (0<=a0/\0<=a1/\0<=a2/\a2<=1) with | true=>k ((a0+a1+a2) % 18446744073709551616) ((a0+a1+a2)/18446744073709551616) | false=>none
theorem zys:(zuj F263).OK Tryz.prog:=zfa Tryz.func263 (by kernel_rfl) (by kernel_rfl) (by kernel_rfl) (by kernel_rfl)
abbrev WL:=(R:Type)->Int->(Bool->Option R)->Option R
def zl6 (F:WL):Ent:=eV 286 [(.int .u64)] [.bool] F
def p286:WL:=λR a0 k=>
k (decide (a0<9223372036854775808))
theorem q286:EQ (zl6 p286) (sE 0 5 [] [] []) Tryz.f286 [(.tmp 2,4,false)]:=λ_ _ _=>by kernel_rfl
def F286:WL:=p286
theorem zyj:OKP (zl6 F286):=ST.ok0 q286 Dl Tryz.func286
abbrev FO:=(R:Type)->Int->Int->(Int->Bool->Option R)->Option R
def zek (F:FO):Ent:=eV 262 [(.int .u64),(.int .u64)] [(.int .u64),.bool] F
def p262 (F286:WL):FO:=λR a0 a1 k=>
(match a1 !=0 with
|true=>k (0:Int) false
|false=>F286 R a0 λy2=>
(match (!y2) with
|true=>k (0:Int) false
|false=>k a0 true))
theorem q262 (F286:WL):EQ (zek (p262 F286)) (sE 0 14 [] [zl6 F286] []) Tryz.f262 [(.tmp 4,32,false),(.tmp 5,4,false)]:=λ_ _ _=>by kernel_rfl
def F262:FO:=p262 F286
theorem zs6:OKP (zek F262):=ST.ok0 (q262 F286) (Dk zyj Dl) Tryz.func262
abbrev N7:=(R:Type)->Int->Int->(Int->Bool->Option R)->Option R
def TO (F:N7):Ent:=eV 225 [(.int .u64),(.int .u64)] [(.int .u64),.bool] F
def p225 (F262:FO) (F263:zff):N7:=λR a0 a1 k=>
F263 R a0 a1 (0:Int) λy1 y2=>
F262 R y1 y2 λy3 y4=>
k y3 y4
theorem q225 (F262:FO) (F263:zff):EQ (TO (p225 F262 F263)) (sE 0 14 [] [zek F262,zuj F263] []) Tryz.f225 [(.tmp 4,32,false),(.tmp 5,4,false)]:=λ_ _ _=>by kernel_rfl
def F225:N7:=p225 F262 F263
theorem QJ:OKP (TO F225):=ST.ok0 (q225 F262 F263) (Dk zs6 (Dk zys Dl)) Tryz.func225
abbrev M3:=(R:Type)->LI->(Int->Bool->Option R)->Option R
def LV (F:M3):Ent:=eV 223 [(.sl (.int .u64))] [(.int .u64),.bool] F
abbrev zah (Z:Type):=Int->LI->Int->Int->Z
abbrev zht (R:Type):=(Int->Bool->Option R)->(Int->Option R)->Option R
abbrev Pn:=(R:Type)->zah (zht R)
def CP (L:Pn):LEnt:=lM 2 [.val 2 (.int .u64),.val 6 (.sl (.int .u64)),.val 7 (.int .i64),.val 8 (.int .i64)] 0 [(.ret,[.val 2 (.int .u64),.val 3 .bool]),(.exit 0,[.val 2 (.int .u64)])] L
def e223 (F225:N7) (L2:Pn):=sE 0 22 [] [TO F225] [CP L2]
def PS (F225:N7) (R:Type):zah (zah (Option R)->zht R):=λx1 x2 x3 x4 kc k0 k1=>
(match decide (x4<x3) with
|true=>(match bnd x4 x2.length with
|true=>F225 R x1 (x2.getD x4.toNat 0) λy7 y8=>
(match (!y8) with
|true=>k0 (0:Int) false
|false=>kc y7 x2 x3 (i64.wrap (x4+1)))
|false=>none)
|false=>k1 x1)
theorem zr2 (F225:N7) (L2:Pn):LEQ (CP L2) (e223 F225 L2) Tryz.f223 (PS F225):=λ_ _ _ _=>by kernel_rfl
def Ta:Nat->Pn
 | 0=>λ_ _ _ _ _ _ _=>none
 | n+1=>λR x1 x2 x3 x4 k0 k1=>PS F225 R x1 x2 x3 x4 (λx1 x2 x3 x4=>Ta n R x1 x2 x3 x4 k0 k1) k0 k1
def p223 (L2:Pn):M3:=λR a0 k=>
L2 R (0:Int) a0 (a0.length:Int) (0:Int) (λx2 x3=>
k x2 x3) (λx4=>
k x4 true)
theorem q223 (F225:N7) (L2:Pn):EQ (LV (p223 L2)) (e223 F225 L2) Tryz.f223 [(.tmp 2,32,false),(.tmp 3,4,false)]:=λ_ _ _=>by kernel_rfl
def F223:M3:=p223 (Ta FUEL)
theorem zc2:LKP (CP (Ta FUEL)) 0 22 2 Tryz.f223:=ST.lok (zr2 F225 (Ta FUEL)) (Dk QJ Dl) [] trivial
theorem QK:OKP (LV F223):=ST.ok1 (q223 F225 (Ta FUEL)) (Dk QJ Dl) Tryz.func223 [2] ⟨⟨_,rfl,zc2⟩,trivial⟩
abbrev FP:=(R:Type)->Tq5->(Int->Option R)->Option R
def zml (F:FP):Ent:=eV 261 [Kq5] [(.int .u64)] F
def p261:FP:=λR a0 k=>
k a0.2.2.1
theorem q261:EQ (zml p261) (sE 0 5 [] [] []) Tryz.f261 [(.tmp 2,32,false)]:=λ_ _ _=>by kernel_rfl
def F261:FP:=p261
theorem zyt:OKP (zml F261):=ST.ok0 q261 Dl Tryz.func261
abbrev Ka:Type 1:=(R:Type)->(List Tq5)->(LI->Option R)->Option R
def I4 (F:Ka):EntF:=⟨241,261,[(false,(.sl Kq5))],[(false,(.sl (.int .u64)))],λR x k=>F R x.1 (λy1=>k (y1,()) ())⟩
def Xy:List (ResultVar×TypeId×Bool):=[(.tmp 4,182,false)]
abbrev Ih:Type 1:=(R:Type)->(List Tq5)->Int->Int->LI->(LI->Option R)->Option R
def Ew (L:Ih):LEnt:=⟨3,[.fix 1 (.fn 261),.fix 5 (.own 0 0),.val 11 (.sl Kq5),.val 12 (.int .i64),.val 13 (.int .i64),.row 0 (.int .u64) false],1,[(.exit 0,[.fix 5 (.own 0 0),.row 0 (.int .u64) false])],λR x ke=>L R x.1 x.2.1 x.2.2.1 x.2.2.2.1 (λy1=>ke.1 (y1,()))⟩
def R9 (F261:FP) (L3:Ih) (R:Type):Env R:=⟨TT,EQT,0,25,E2 [],En [zml F261] R,Et [Ew L3] R,[],Ep [],[],λ_ _ _ _=>none⟩
def Ng (F261:FP):(R:Type)->(List Tq5)->Int->Int->LI->((List Tq5)->Int->Int->LI->Option R)->(LI->Option R)->Option R:=λR x1 x2 x3 x4 kc k0=>
(match decide (x3<x2) with
|true=>(match bnd x3 x1.length with
|true=>F261 R (x1.getD x3.toNat ((replicate 32 0),0,0,())) λy7=>
let v8:=([y7]:LI);(match (decide (x4.length+v8.length<=17592186044416)) with
|true=>kc x1 x2 (i64.wrap (x3+1)) (x4++v8)
|false=>none)
|false=>none)
|false=>k0 x4)
theorem ON (F261:FP) (L3:Ih) (R:Type) (x:HT (Ew L3).H) (kc:HT (Ew L3).H->Option R) (ke:KT R (Ew L3).exs):
 exec (R9 F261 L3 R) (Fu 3 (Ds Tryz.f241)) (stOf (Ew L3).H x 1) (P3 (Ew L3).H (Ew L3).exs kc ke)=
  Ng F261 R x.1 x.2.1 x.2.2.1 x.2.2.2.1 (λx1 x2 x3 x4=>kc (x1,x2,x3,x4,())) (λy1=>ke.1 (y1,())):=by kernel_rfl
def Ej:Nat->Ih
 | 0=>λ_ _ _ _ _ _=>none
 | n+1=>λR x1 x2 x3 x4 k0=>Ng F261 R x1 x2 x3 x4 (λx1 x2 x3 x4=>Ej n R x1 x2 x3 x4 k0) k0
def BA (L3:Ih):Ka:=λR a0 k=>
let v1:=(a0.length:Int);(match (decide (0<=(0:Int)/\(0:Int)<=v1/\v1<=17592186044416)) with
|true=>L3 R a0 (a0.length:Int) (0:Int) (replicate 0 (0:Int)) (λx4=>
k x4)
|false=>none)
theorem ziw (F261:FP) (L3:Ih) (F:Ka) (R:Type) (x:AT (I4 F).ins) (k:RT (I4 F).outs->PT (I4 F).ins->Option R):
 xfun (R9 F261 L3 R) (Ds Tryz.f241) Xy (avs (I4 F).ins x++[AV.fn 261]) (finK (I4 F).outs (I4 F).ins k)=BA L3 R x.1 (λy1=>k (y1,()) ()):=by kernel_rfl
def Hb:Ka:=BA (Ej FUEL)
theorem Yu (R:Type):D7 Tryz.prog (R9 F261 (Ej FUEL) R):=⟨tabOK,eqOK,Dz (Dk zyt Dl),E7,Du,noYl⟩
def K9:(R:Type)->HT (Ew (Ej FUEL)).H->(HT (Ew (Ej FUEL)).H->Option R)->KT R (Ew (Ej FUEL)).exs->Option R:=λR x kc ke=>Ng F261 R x.1 x.2.1 x.2.2.1 x.2.2.2.1 (λx1 x2 x3 x4=>kc (x1,x2,x3,x4,())) (λy1=>ke.1 (y1,()))
theorem LH:∀(n:Nat) (R:Type) (x:HT (Ew (Ej FUEL)).H) (ke:KT R (Ew (Ej FUEL)).exs),iter K9 n R x ke=Ej n R x.1 x.2.1 x.2.2.1 x.2.2.2.1 (λy1=>ke.1 (y1,())):=by
 intro n
 induction n with
 | zero=>intro R x ke; rfl
 | succ n ih=>
  intro R x ke;show K9 R x (λx'=>iter K9 n R x' ke) ke=_
  rw [show (λx'=>iter K9 n R x' ke)=λx=>Ej n R x.1 x.2.1 x.2.2.1 x.2.2.2.1 (λy1=>ke.1 (y1,())) from funext λx'=>ih R x' ke];rfl
theorem BQ:(Ew (Ej FUEL)).OK Tryz.prog 0 25 (Fu 3 (Ds Tryz.f241)):=⟨⟨λ_ h=>(by cases h),by kernel_rfl⟩,λR x ke r h=>
 Ib (λR=>R9 F261 (Ej FUEL) R) 0 25 (λ_=>rfl) (λ_=>rfl) (λR=>Yu R) mixed (by
  intro R;rw [show Dy (Fu 3 (Ds Tryz.f241))=[] from by kernel_rfl];exact E3) (λ_ h=>(by cases h)) (Rt (by kernel_rfl)) (T:=K9) (λR x kc ke=>ON F261 (Ej FUEL) R x kc ke) FUEL R x ke r ((LH FUEL R x ke).trans h)⟩
theorem zb1:(I4 Hb).OK Tryz.prog:=
 Mo (Ef:=λR=>R9 F261 (Ej FUEL) R) (λR=>Yu R) mixed Tryz.func241 (body:=Ds Tryz.f241) (by kernel_rfl) (by kernel_rfl) (np:=0) (nt:=25) (λ_=>rfl) (λ_=>rfl) (by kernel_rfl) (res:=Xy) (by kernel_rfl) (λ_=>rfl) (λ_=>Bj rfl) (by
  intro R;rw [show Dy (Ds Tryz.f241)=[Fu 3 (Ds Tryz.f241)] from by kernel_rfl];exact (Dp (Lq (e:=Ew (Ej FUEL)) rfl rfl BQ) E3)) (λR x k=>ziw F261 (Ej FUEL) Hb R x k)
abbrev Ws:=(R:Type)->(List Tq5)->(LI->Option R)->Option R
def zes (F:Ws):Ent:=eV 224 [(.sl Kq5)] [(.sl (.int .u64))] F
def e224 (Hb:Ka) (R:Type):Env R:=⟨TT,EQT,0,5,E2 [],Hx [I4 Hb] [] R,Et [] R,[],Ep [],[],λ_ _ _ _=>none⟩
def p224 (Hb:Ka):Ws:=λR a0 k=>
Hb R a0 λy1=>
k y1
theorem q224 (Hb:Ka):EQ (zes (p224 Hb)) (e224 Hb) Tryz.f224 [(.tmp 2,182,false)]:=λ_ _ _=>by kernel_rfl
def F224:Ws:=p224 Hb
theorem zt7 (R:Type):D7 Tryz.prog (e224 Hb R):=⟨tabOK,eqOK,F0 (Iw zb1 H5) Dl,E7,Du,noYl⟩
theorem zth:OKP (zes F224):=ST.ok3 (q224 Hb) zt7 Tryz.func224 (λ_=>rfl) (λ_=>rfl) (λ_=>rfl) [] trivial
abbrev Tv:Type 1:=(R:Type)->(List Tq5)->((List Tq12)->Option R)->Option R
def V1 (F:Tv):EntR:=⟨222,(.arr 32 (.int .u8)),(.int .i64),[(false,(.sl Kq5))],λR x k=>F R x.1 k⟩
abbrev Po:Type 1:=(R:Type)->(List Tq5)->Int->Int->(List Tq12)->((List Tq12)->Option R)->Option R
def Gm (L:Po):LEnt:=⟨3,[.fix 3 (.mp 0),.val 11 (.sl Kq5),.val 12 (.int .i64),.val 13 (.int .i64),.map 0 (.arr 32 (.int .u8)) (.int .i64)],1,[(.exit 0,[.fix 3 (.mp 0),.map 0 (.arr 32 (.int .u8)) (.int .i64)])],λR x ke=>L R x.1 x.2.1 x.2.2.1 x.2.2.2.1 (λy1=>ke.1 (y1,()))⟩
def e222 (L3:Po) (R:Type):Env R:=⟨TT,EQT,0,33,E2 [],En [] R,Et [Gm L3] R,[],Ep [],[],λ_ _ _ _=>none⟩
def IC:(R:Type)->(List Tq5)->Int->Int->(List Tq12)->((List Tq5)->Int->Int->(List Tq12)->Option R)->((List Tq12)->Option R)->Option R:=λR x1 x2 x3 x4 kc k0=>
(match decide (x3<x2) with
|true=>(match bnd x3 x1.length with
|true=>let v6:=x1.getD x3.toNat ((replicate 32 0),0,0,());let v7:=Option.getD (E9 (Kd.eqv (.arr 32 (.int .u8))) x4 v6.1) (0:Int);(match (!(Option.isSome (E9 (Kd.eqv (.arr 32 (.int .u8))) x4 v6.1))) with
|true=>(match (Option.isNone (E9 (Kd.eqv (.arr 32 (.int .u8))) x4 v6.1)) with
|true=>kc x1 x2 (i64.wrap (x3+1)) (x4++[(v6.1,x3)])
|false=>none)
|false=>kc x1 x2 (i64.wrap (x3+1)) x4)
|false=>none)
|false=>k0 x4)
theorem zr3 (L3:Po) (R:Type) (x:HT (Gm L3).H) (kc:HT (Gm L3).H->Option R) (ke:KT R (Gm L3).exs):
 exec (e222 L3 R) (Fu 3 (Ds Tryz.f222)) (stOf (Gm L3).H x 1) (P3 (Gm L3).H (Gm L3).exs kc ke)=
  IC R x.1 x.2.1 x.2.2.1 x.2.2.2.1 (λx1 x2 x3 x4=>kc (x1,x2,x3,x4,())) (λy1=>ke.1 (y1,())):=by kernel_rfl
def Gv:Nat->Po
 | 0=>λ_ _ _ _ _ _=>none
 | n+1=>λR x1 x2 x3 x4 k0=>IC R x1 x2 x3 x4 (λx1 x2 x3 x4=>Gv n R x1 x2 x3 x4 k0) k0
def p222 (L3:Po):Tv:=λR a0 k=>
let v1:=(a0.length:Int);L3 R a0 (a0.length:Int) (0:Int) ([]:List (LI×Int)) (λx3=>
k x3)
theorem q222 (L3:Po) (F:Tv) (R:Type) (x:AT (V1 F).ins) (k:List ((V1 F).kk.T×(V1 F).kv.T)->Option R):
 za1 (e222 L3 R) (Ds Tryz.f222) 2 (V1 F).kk (V1 F).kv (avs (V1 F).ins x) k=p222 L3 R x.1 k:=by kernel_rfl
def F222:Tv:=p222 (Gv FUEL)
theorem zf8 (R:Type):D7 Tryz.prog (e222 (Gv FUEL) R):=⟨tabOK,eqOK,Dz Dl,E7,Du,noYl⟩
def Zh:(R:Type)->HT (Gm (Gv FUEL)).H->(HT (Gm (Gv FUEL)).H->Option R)->KT R (Gm (Gv FUEL)).exs->Option R:=λR x kc ke=>IC R x.1 x.2.1 x.2.2.1 x.2.2.2.1 (λx1 x2 x3 x4=>kc (x1,x2,x3,x4,())) (λy1=>ke.1 (y1,()))
theorem zk8:∀(n:Nat) (R:Type) (x:HT (Gm (Gv FUEL)).H) (ke:KT R (Gm (Gv FUEL)).exs),iter Zh n R x ke=Gv n R x.1 x.2.1 x.2.2.1 x.2.2.2.1 (λy1=>ke.1 (y1,())):=by
 intro n
 induction n with
 | zero=>intro R x ke; rfl
 | succ n ih=>
  intro R x ke;show Zh R x (λx'=>iter Zh n R x' ke) ke=_
  rw [show (λx'=>iter Zh n R x' ke)=λx=>Gv n R x.1 x.2.1 x.2.2.1 x.2.2.2.1 (λy1=>ke.1 (y1,())) from funext λx'=>ih R x' ke];rfl
theorem zc3:(Gm (Gv FUEL)).OK Tryz.prog 0 33 (Fu 3 (Ds Tryz.f222)):=⟨⟨λ_ h=>(by cases h),by kernel_rfl⟩,λR x ke r h=>
 Ib (λR=>e222 (Gv FUEL) R) 0 33 (λ_=>rfl) (λ_=>rfl) (λR=>zf8 R) mixed (by
  intro R;rw [show Dy (Fu 3 (Ds Tryz.f222))=[] from by kernel_rfl];exact E3) (λ_ h=>(by cases h)) (Rt (by kernel_rfl)) (T:=Zh) (λR x kc ke=>zr3 (Gv FUEL) R x kc ke) FUEL R x ke r ((zk8 FUEL R x ke).trans h)⟩
theorem zti:(V1 F222).OK Tryz.prog:=
 zlj (Ef:=λR=>e222 (Gv FUEL) R) (λR=>zf8 R) mixed Tryz.func222 (body:=Ds Tryz.f222) (by kernel_rfl) (by kernel_rfl) (nt:=33) (λ_=>rfl) (λ_=>rfl) (by kernel_rfl) (t:=2) (by kernel_rfl) (λ_=>Bj rfl) (by
  intro R;rw [show Dy (Ds Tryz.f222)=[Fu 3 (Ds Tryz.f222)] from by kernel_rfl];exact (Dp (Lq (e:=Gm (Gv FUEL)) rfl rfl zc3) E3)) (λR x k=>q222 (Gv FUEL) F222 R x k)
abbrev Z8:=(R:Type)->(List Tq5)->(Bool->Option R)->Option R
def zet (F:Z8):Ent:=eV 221 [(.sl Kq5)] [.bool] F
def e221 (F190:N8) (F222:Tv) (F223:M3) (F224:Ws) (R:Type):Env R:=⟨TT,EQT,0,36,E2 [(3,11)],En [DJ F190,LV F223,zes F224] R,Et [] R,[],Ep [(222,inlR 0 (V1 F222) R)],[],λ_ _ _ _=>none⟩
def p221 (F190:N8) (F222:Tv) (F223:M3) (F224:Ws):Z8:=λR a0 k=>
F190 R a0 λy1=>
F223 R y1 λy2 y3=>
F224 R a0 λy4=>
F223 R y4 λy5 y6=>
(match y3 with
|true=>(match y6 with
|true=>(match decide ((a0.length:Int)<=1048576) with
|true=>F222 R a0 λm9=>
k ((m9.length:Int)==(a0.length:Int))
|false=>k false)
|false=>k false)
|false=>k false)
theorem q221 (F190:N8) (F222:Tv) (F223:M3) (F224:Ws):EQ (zet (p221 F190 F222 F223 F224)) (e221 F190 F222 F223 F224) Tryz.f221 [(.tmp 2,4,false)]:=λ_ _ _=>by kernel_rfl
def F221:Z8:=p221 F190 F222 F223 F224
theorem zt8 (R:Type):D7 Tryz.prog (e221 F190 F222 F223 F224 R):=⟨tabOK,eqOK,Dz (Dk QL (Dk QK (Dk zth Dl))),E7,(Rz zti Du),noYl⟩
theorem ztj:OKP (zet F221):=ST.ok3 (q221 F190 F222 F223 F224) zt8 Tryz.func221 (λ_=>rfl) (λ_=>rfl) (λ_=>rfl) [] trivial
def e226:Env (List (Kd.T Kq5)):=⟨TT,EQT,0,9,E2 [(1,5)],λ_ _ _=>none,λ_ _ _=>none,[],Ep [],[],λ_ _ _ _=>none⟩
theorem zy4:Wj Tryz.prog 226 Kq5 0:=
 zn9 (e:=Kq5) (E:=e226) ⟨tabOK,eqOK,(λf b K r h=>by cases h),E7,Du,noYl⟩ mixed Tryz.func226 (body:=Ds Tryz.f226) (by kernel_rfl) (by kernel_rfl) rfl (by kernel_rfl) (t:=2) (by kernel_rfl) (by decide) (by kernel_rfl) (λl=>by kernel_rfl)
abbrev Z6:Type 1:=(R:Type)->(List Tq5)->((List Tq5)->Option R)->Option R
def zmk (F:Z6):Ent:=⟨264,[(false,(.sl Kq5))],[(true,Kq5)],λR x k=>F R x.1 (λy1=>k (y1,()) ())⟩
def e264:Env (RT [(true,Kq5)]):=⟨TT,EQT,0,8,E2 [(2,0),(3,0)],λ_ _ _=>none,λ_ _ _=>none,[],Ep [],[],λ_ _ _ _=>none⟩
def F264:Z6:=λR a0 k=>match decide (List.length ([]:(List Tq5))+a0.length<=2932031007402) with | true=>k a0 | false=>none
theorem zjv:(zmk F264).OK Tryz.prog:=
 Ls (e:=Kq5) e264 ⟨tabOK,eqOK,(λf b K r h=>by cases h),E7,Du,noYl⟩ mixed Tryz.func264 (body:=Ds Tryz.f264) (by kernel_rfl) (by kernel_rfl) (by kernel_rfl) (res:=[(.tmp 2,31,true)]) (by kernel_rfl) rfl (by decide) (by kernel_rfl) (lim:=2932031007402) (by kernel_rfl) (λl=>by kernel_rfl)
abbrev Tu:=(R:Type)->(List Tq5)->Int->Int->((List Tq5)->Option R)->Option R
def TN (F:Tu):Ent:=eV 227 [(.sl Kq5),(.int .i64),(.int .u64)] [(.sl Kq5)] F
def p227 (F264:Z6):Tu:=λR a0 a1 a2 k=>
F264 R a0 λy1=>
(match bnd a1 y1.length with
|true=>k (y1.set a1.toNat ((y1.getD a1.toNat ((replicate 32 0),0,0,())).1,(y1.getD a1.toNat ((replicate 32 0),0,0,())).2.1,a2,(y1.getD a1.toNat ((replicate 32 0),0,0,())).2.2.2))
|false=>none)
theorem q227 (F264:Z6):EQ (TN (p227 F264)) (sE 0 15 [] [zmk F264] []) Tryz.f227 [(.tmp 6,31,false)]:=λ_ _ _=>by kernel_rfl
def F227:Tu:=p227 F264
theorem zjz:OKP (TN F227):=ST.ok0 (q227 F264) (Dk zjv Dl) Tryz.func227
abbrev XN:=(R:Type)->(List Tq5)->LI->Int->Int->((List Tq5)->Int->Int->Option R)->Option R
def zne (F:XN):Ent:=eV 177 [(.sl Kq5),(.arr 32 (.int .u8)),(.int .u64),(.int .i64)] [(.sl Kq5),(.int .i64),(.int .i64)] F
def e177 (F221:Z8) (F222:Tv) (F223:M3) (F224:Ws) (F225:N7) (F227:Tu) (R:Type):Env R:=⟨TT,EQT,0,83,E2 [(3,1),(13,1)],En [zet F221,LV F223,zes F224,TO F225,TN F227] R,Et [] R,[(226,Kq5,0)],Ep [(222,inlR 0 (V1 F222) R)],[],λ_ _ _ _=>none⟩
def p177 (F221:Z8) (F222:Tv) (F223:M3) (F224:Ws) (F225:N7) (F227:Tu):XN:=λR a0 a1 a2 a3 k=>
F221 R a0 λy1=>
(match (!y1) with
|true=>k ([]:(List Tq5)) (0:Int) (1:Int)
|false=>(match a2==0 with
|true=>k ([]:(List Tq5)) (0:Int) (1:Int)
|false=>(match decide (a3<1) with
|true=>k ([]:(List Tq5)) (0:Int) (1:Int)
|false=>(match decide (a3>1048576) with
|true=>k ([]:(List Tq5)) (0:Int) (1:Int)
|false=>F222 R a0 λm5=>
let v6:=Option.getD (E9 (Kd.eqv (.arr 32 (.int .u8))) m5 a1) (0:Int);let v7:=Option.isSome (E9 (Kd.eqv (.arr 32 (.int .u8))) m5 a1);(match (!v7) with
|true=>let v8:=(a0.length:Int);(match decide (v8>=a3) with
|true=>(match (!v7) with
|true=>k ([]:(List Tq5)) (0:Int) (4:Int)
|false=>F224 R a0 λy10=>
F223 R y10 λy11 y12=>
F225 R y11 a2 λy13 y14=>
(match (!y14) with
|true=>k ([]:(List Tq5)) (0:Int) (11:Int)
|false=>(match (!v7) with
|true=>let v15:=([(a1,(0:Int),(0:Int),())]:(List Tq5));(match (decide (0<v15.length/\a0.length+v15.length<=2932031007402)) with
|true=>let v16:=a0++v15;(match bnd v8 v16.length with
|true=>F227 R v16 v8 (u64.wrap (((v16.getD v8.toNat ((replicate 32 0),0,0,())).2.2.1)+a2)) λy19=>
k y19 v8 (0:Int)
|false=>none)
|false=>none)
|false=>(match bnd v8 a0.length with
|true=>F227 R a0 v8 (u64.wrap (((a0.getD v8.toNat ((replicate 32 0),0,0,())).2.2.1)+a2)) λy22=>
k y22 v8 (0:Int)
|false=>none))))
|false=>F224 R a0 λy23=>
F223 R y23 λy24 y25=>
F225 R y24 a2 λy26 y27=>
(match (!y27) with
|true=>k ([]:(List Tq5)) (0:Int) (11:Int)
|false=>(match (!v7) with
|true=>let v28:=([(a1,(0:Int),(0:Int),())]:(List Tq5));(match (decide (0<v28.length/\a0.length+v28.length<=2932031007402)) with
|true=>let v29:=a0++v28;(match bnd v8 v29.length with
|true=>F227 R v29 v8 (u64.wrap (((v29.getD v8.toNat ((replicate 32 0),0,0,())).2.2.1)+a2)) λy32=>
k y32 v8 (0:Int)
|false=>none)
|false=>none)
|false=>(match bnd v8 a0.length with
|true=>F227 R a0 v8 (u64.wrap (((a0.getD v8.toNat ((replicate 32 0),0,0,())).2.2.1)+a2)) λy35=>
k y35 v8 (0:Int)
|false=>none))))
|false=>(match decide (v6>=a3) with
|true=>(match (!v7) with
|true=>k ([]:(List Tq5)) (0:Int) (4:Int)
|false=>F224 R a0 λy37=>
F223 R y37 λy38 y39=>
F225 R y38 a2 λy40 y41=>
(match (!y41) with
|true=>k ([]:(List Tq5)) (0:Int) (11:Int)
|false=>(match (!v7) with
|true=>let v42:=([(a1,(0:Int),(0:Int),())]:(List Tq5));(match (decide (0<v42.length/\a0.length+v42.length<=2932031007402)) with
|true=>let v43:=a0++v42;(match bnd v6 v43.length with
|true=>F227 R v43 v6 (u64.wrap (((v43.getD v6.toNat ((replicate 32 0),0,0,())).2.2.1)+a2)) λy46=>
k y46 v6 (0:Int)
|false=>none)
|false=>none)
|false=>(match bnd v6 a0.length with
|true=>F227 R a0 v6 (u64.wrap (((a0.getD v6.toNat ((replicate 32 0),0,0,())).2.2.1)+a2)) λy49=>
k y49 v6 (0:Int)
|false=>none))))
|false=>F224 R a0 λy50=>
F223 R y50 λy51 y52=>
F225 R y51 a2 λy53 y54=>
(match (!y54) with
|true=>k ([]:(List Tq5)) (0:Int) (11:Int)
|false=>(match (!v7) with
|true=>let v55:=([(a1,(0:Int),(0:Int),())]:(List Tq5));(match (decide (0<v55.length/\a0.length+v55.length<=2932031007402)) with
|true=>let v56:=a0++v55;(match bnd v6 v56.length with
|true=>F227 R v56 v6 (u64.wrap (((v56.getD v6.toNat ((replicate 32 0),0,0,())).2.2.1)+a2)) λy59=>
k y59 v6 (0:Int)
|false=>none)
|false=>none)
|false=>(match bnd v6 a0.length with
|true=>F227 R a0 v6 (u64.wrap (((a0.getD v6.toNat ((replicate 32 0),0,0,())).2.2.1)+a2)) λy62=>
k y62 v6 (0:Int)
|false=>none)))))))))
theorem q177 (F221:Z8) (F222:Tv) (F223:M3) (F224:Ws) (F225:N7) (F227:Tu):EQ (zne (p177 F221 F222 F223 F224 F225 F227)) (e177 F221 F222 F223 F224 F225 F227) Tryz.f177 [(.tmp 8,31,false),(.tmp 9,3,false),(.tmp 10,40,false)]:=λ_ _ _=>by kernel_rfl
def F177:XN:=p177 F221 F222 F223 F224 F225 F227
theorem zub (R:Type):D7 Tryz.prog (e177 F221 F222 F223 F224 F225 F227 R):=⟨tabOK,eqOK,Dz (Dk ztj (Dk QK (Dk zth (Dk QJ (Dk zjz Dl))))),zf3 zy4,(Rz zti Du),noYl⟩
theorem zzj:OKP (zne F177):=ST.ok3 (q177 F221 F222 F223 F224 F225 F227) zub Tryz.func177 (λ_=>rfl) (λ_=>rfl) (λ_=>rfl) [] trivial
abbrev MZ:=(R:Type)->Tq31->Tq11->(Int->Tq31->Option R)->Option R
def zny (F:MZ):Ent:=eM 126 [(true,Kq31),(false,Kq11)] [(false,(.int .i64))] F
def p126 (F177:XN):MZ:=λR a0 a1 k=>
F177 R a0.1.2.2.1 a1.2.2.2.1 a1.2.2.1 a0.1.1.2.2.2.2.1 λy1 y2 y3=>
k y3 ((a0.1.1,a0.1.2.1,y1,a0.1.2.2.2),(a0.2.1.1,(u64.wrap y2),a0.2.1.2.2),a0.2.2)
theorem q126 (F177:XN):EQ (zny (p126 F177)) (sE 1 40 [] [zne F177] []) Tryz.f126 [(.tmp 4,40,false)]:=λ_ _ _=>by kernel_rfl
def F126:MZ:=p126 F177
theorem zzz:OKP (zny F126):=ST.ok0 (q126 F177) (Dk zzj Dl) Tryz.func126
abbrev FZ:=(R:Type)->(List Tq5)->Int->(Int->Option R)->Option R
def zer (F:FZ):Ent:=eV 228 [(.sl Kq5),(.int .i64)] [(.int .i64)] F
def p228 (F221:Z8):FZ:=λR a0 a1 k=>
F221 R a0 λy1=>
(match (!y1) with
|true=>k (1:Int)
|false=>(match decide (a1<0) with
|true=>k (5:Int)
|false=>(match decide (a1>=(a0.length:Int)) with
|true=>k (5:Int)
|false=>k (0:Int))))
theorem q228 (F221:Z8):EQ (zer (p228 F221)) (sE 0 18 [] [zet F221] []) Tryz.f228 [(.tmp 4,40,false)]:=λ_ _ _=>by kernel_rfl
def F228:FZ:=p228 F221
theorem ztg:OKP (zer F228):=ST.ok0 (q228 F221) (Dk ztj Dl) Tryz.func228
abbrev XM:=(R:Type)->(List Tq5)->Int->Int->((List Tq5)->Int->Int->Option R)->Option R
def znd (F:XM):Ent:=eV 178 [(.sl Kq5),(.int .i64),(.int .u64)] [(.sl Kq5),(.int .u64),(.int .i64)] F
def p178 (F227:Tu) (F228:FZ):XM:=λR a0 a1 a2 k=>
F228 R a0 a1 λy1=>
(match a2==0 with
|true=>k ([]:(List Tq5)) (0:Int) (1:Int)
|false=>(match y1 !=0 with
|true=>k ([]:(List Tq5)) (0:Int) y1
|false=>(match bnd a1 a0.length with
|true=>(match decide (a2>((a0.getD a1.toNat ((replicate 32 0),0,0,())).2.2.1)) with
|true=>k ([]:(List Tq5)) (0:Int) (12:Int)
|false=>(match bnd a1 a0.length with
|true=>let v7:=u64.wrap (((a0.getD a1.toNat ((replicate 32 0),0,0,())).2.2.1) - a2);F227 R a0 a1 v7 λy8=>
k y8 v7 (0:Int)
|false=>none))
|false=>none)))
theorem q178 (F227:Tu) (F228:FZ):EQ (znd (p178 F227 F228)) (sE 0 41 [] [TN F227,zer F228] []) Tryz.f178 [(.tmp 6,31,false),(.tmp 7,32,false),(.tmp 8,40,false)]:=λ_ _ _=>by kernel_rfl
def F178:XM:=p178 F227 F228
theorem zzi:OKP (znd F178):=ST.ok0 (q178 F227 F228) (Dk zjz (Dk ztg Dl)) Tryz.func178
abbrev MY:=(R:Type)->Tq31->Tq11->(Int->Tq31->Option R)->Option R
def znx (F:MY):Ent:=eM 127 [(true,Kq31),(false,Kq11)] [(false,(.int .i64))] F
def p127 (F178:XM):MY:=λR a0 a1 k=>
F178 R a0.1.2.2.1 a1.2.1 a1.2.2.1 λy1 y2 y3=>
k y3 ((a0.1.1,a0.1.2.1,y1,a0.1.2.2.2),(a0.2.1.1,y2,a0.2.1.2.2),a0.2.2)
theorem q127 (F178:XM):EQ (znx (p127 F178)) (sE 1 28 [] [znd F178] []) Tryz.f127 [(.tmp 4,40,false)]:=λ_ _ _=>by kernel_rfl
def F127:MY:=p127 F178
theorem zzy:OKP (znx F127):=ST.ok0 (q127 F178) (Dk zzi Dl) Tryz.func127
abbrev XL:=(R:Type)->(List Tq5)->Int->Int->((List Tq5)->Int->Int->Option R)->Option R
def znc (F:XL):Ent:=eV 179 [(.sl Kq5),(.int .i64),(.int .u64)] [(.sl Kq5),(.int .u64),(.int .i64)] F
def p179 (F227:Tu) (F228:FZ):XL:=λR a0 a1 a2 k=>
F228 R a0 a1 λy1=>
(match y1 !=0 with
|true=>k ([]:(List Tq5)) (0:Int) y1
|false=>(match bnd a1 a0.length with
|true=>let v3:=(a0.getD a1.toNat ((replicate 32 0),0,0,())).2.2.1;let v4:=if v3<a2 then v3 else a2;(match bnd a1 a0.length with
|true=>F227 R a0 a1 (u64.wrap (((a0.getD a1.toNat ((replicate 32 0),0,0,())).2.2.1) - v4)) λy7=>
k y7 v4 (0:Int)
|false=>none)
|false=>none))
theorem q179 (F227:Tu) (F228:FZ):EQ (znc (p179 F227 F228)) (sE 0 35 [] [TN F227,zer F228] []) Tryz.f179 [(.tmp 6,31,false),(.tmp 7,32,false),(.tmp 8,40,false)]:=λ_ _ _=>by kernel_rfl
def F179:XL:=p179 F227 F228
theorem zzh:OKP (znc F179):=ST.ok0 (q179 F227 F228) (Dk zjz (Dk ztg Dl)) Tryz.func179
abbrev MX:=(R:Type)->Tq31->Tq11->(Int->Tq31->Option R)->Option R
def znw (F:MX):Ent:=eM 128 [(true,Kq31),(false,Kq11)] [(false,(.int .i64))] F
def p128 (F179:XL):MX:=λR a0 a1 k=>
F179 R a0.1.2.2.1 a1.2.1 a1.2.2.1 λy1 y2 y3=>
k y3 ((a0.1.1,a0.1.2.1,y1,a0.1.2.2.2),(a0.2.1.1,y2,a0.2.1.2.2),a0.2.2)
theorem q128 (F179:XL):EQ (znw (p128 F179)) (sE 1 28 [] [znc F179] []) Tryz.f128 [(.tmp 4,40,false)]:=λ_ _ _=>by kernel_rfl
def F128:MX:=p128 F179
theorem zzx:OKP (znw F128):=ST.ok0 (q128 F179) (Dk zzh Dl) Tryz.func128
abbrev Ti:=(R:Type)->Tq31->Int->(Int->Tq31->Option R)->Option R
def TS (F:Ti):Ent:=eM 180 [(true,Kq31),(false,(.int .i64))] [(false,(.int .i64))] F
def p180:Ti:=λR a0 a1 k=>
(match decide (a1<0) with
|true=>k (5:Int) a0
|false=>(match decide (a1>=(a0.1.2.2.1.length:Int)) with
|true=>k (5:Int) a0
|false=>k (0:Int) a0))
theorem q180:EQ (TS p180) (sE 1 17 [] [] []) Tryz.f180 [(.tmp 4,40,false)]:=λ_ _ _=>by kernel_rfl
def F180:Ti:=p180
theorem zj4:OKP (TS F180):=ST.ok0 q180 Dl Tryz.func180
abbrev FY:=(R:Type)->Tq21->Int->(Bool->Option R)->Option R
def zeq (F:FY):Ent:=eV 229 [Kq21,(.int .i64)] [.bool] F
def p229 (F58:FT58):FY:=λR a0 a1 k=>
F58 R a0 λy1=>
(match y1 with
|true=>(match decide (a1>=0) with
|true=>k (decide (a1<a0.1))
|false=>k false)
|false=>k false)
theorem q229 (F58:FT58):EQ (zeq (p229 F58)) (sE 0 17 [] [en58 F58] []) Tryz.f229 [(.tmp 4,4,false)]:=λ_ _ _=>by kernel_rfl
def F229:FY:=p229 F58
theorem ztf:OKP (zeq F229):=ST.ok0 (q229 F58) (Dk ok58 Dl) Tryz.func229
abbrev Wv:=(R:Type)->Tq21->Int->(Int->Option R)->Option R
def zey (F:Wv):Ent:=eV 181 [Kq21,(.int .i64)] [(.int .i64)] F
def p181 (F229:FY):Wv:=λR a0 a1 k=>
F229 R a0 a1 λy1=>
(match (!y1) with
|true=>k (0:Int)
|false=>(match decide (a1<a0.2.1) with
|true=>k (1:Int)
|false=>(match decide (a1<(i64.wrap (a0.2.1+a0.2.2.1))) with
|true=>k (2:Int)
|false=>k (3:Int))))
theorem q181 (F229:FY):EQ (zey (p181 F229)) (sE 0 23 [] [zeq F229] []) Tryz.f181 [(.tmp 4,3,false)]:=λ_ _ _=>by kernel_rfl
def F181:Wv:=p181 F229
theorem ztp:OKP (zey F181):=ST.ok0 (q181 F229) (Dk ztf Dl) Tryz.func181
abbrev XE:=(R:Type)->(LI->Option R)->Option R
def zm3 (F:XE):Ent:=eV 208 [] [(.arr 8 (.int .u32))] F
def p208:XE:=λR k=>
k (List.set (List.set (List.set (List.set (List.set (List.set (List.set (List.set (replicate 8 (0:Int)) 0 (1779033703:Int)) 1 (3144134277:Int)) 2 (1013904242:Int)) 3 (2773480762:Int)) 4 (1359893119:Int)) 5 (2600822924:Int)) 6 (528734635:Int)) 7 (1541459225:Int))
theorem q208:EQ (zm3 p208) (sE 0 2 [] [] []) Tryz.f208 [(.cell 0 137,137,false)]:=λ_ _ _=>by kernel_rfl
def F208:XE:=p208
theorem zza:OKP (zm3 F208):=ST.ok0 q208 Dl Tryz.func208
abbrev XP:=(R:Type)->(Tq33->Option R)->Option R
def znk (F:XP):Ent:=eV 163 [] [Kq33] F
def p163 (F208:XE):XP:=λR k=>
F208 R  λy1=>
k (y1,([]:LI),(0:Int),())
theorem q163 (F208:XE):EQ (znk (p163 F208)) (sE 0 3 [] [zm3 F208] []) Tryz.f163 [(.cell 0 233,233,false)]:=λ_ _ _=>by kernel_rfl
def F163:XP:=p163 F208
theorem zzl:OKP (znk F163):=ST.ok0 (q163 F208) (Dk zza Dl) Tryz.func163
abbrev GC:=(R:Type)->Tq33->(Bool->Option R)->Option R
def zm5 (F:GC):Ent:=eV 206 [Kq33] [.bool] F
def p206:GC:=λR a0 k=>
(match decide (a0.2.2.1<2305843009213693952) with
|true=>k ((u64.wrap (a0.2.1.length:Int))==(iand .u64 a0.2.2.1 (63:Int)))
|false=>k false)
theorem q206:EQ (zm5 p206) (sE 0 16 [] [] []) Tryz.f206 [(.tmp 2,4,false)]:=λ_ _ _=>by kernel_rfl
def F206:GC:=p206
theorem ztm:OKP (zm5 F206):=ST.ok0 q206 Dl Tryz.func206
abbrev zfg:Type 1:=(R:Type)->LI->(LI->Option R)->Option R
def zuk (F:zfg):Ent:=⟨255,[(false,(.sl (.int .u8)))],[(true,(.int .u8))],λR x k=>F R x.1 (λy1=>k (y1,()) ())⟩
def e255:Env (RT [(true,(.int .u8))]):=⟨TT,EQT,0,8,E2 [(2,0),(3,0)],λ_ _ _=>none,λ_ _ _=>none,[],Ep [],[],λ_ _ _ _=>none⟩
def F255:zfg:=λR a0 k=>match decide (List.length ([]:LI)+a0.length<=140737488355328) with | true=>k a0 | false=>none
theorem zyv:(zuk F255).OK Tryz.prog:=
 Ls (e:=(.int .u8)) e255 ⟨tabOK,eqOK,(λf b K r h=>by cases h),E7,Du,noYl⟩ mixed Tryz.func255 (body:=Ds Tryz.f255) (by kernel_rfl) (by kernel_rfl) (by kernel_rfl) (res:=[(.tmp 2,25,true)]) (by kernel_rfl) rfl (by decide) (by kernel_rfl) (lim:=140737488355328) (by kernel_rfl) (λl=>by kernel_rfl)
abbrev FS:=(R:Type)->LI->((List LI)->LI->Option R)->Option R
def zmn (F:FS):Ent:=eV 257 [(.sl (.int .u8))] [(.sl (.arr 64 (.int .u8))),(.sl (.int .u8))] F
abbrev ZV (Z:Type):=LI->(List LI)->Z
abbrev zho (R:Type):=(LI->(List LI)->Option R)->Option R
abbrev Pi:=(R:Type)->ZV (zho R)
def CK (L:Pi):LEnt:=lM 1 [.val 0 (.sl (.int .u8)),.fix 2 (.own 0 0),.row 0 (.arr 64 (.int .u8)) false] 1 [(.exit 0,[.val 0 (.sl (.int .u8)),.fix 2 (.own 0 0),.row 0 (.arr 64 (.int .u8)) false])] L
def e257 (L1:Pi):=sE 0 17 [(0,0)] [] [CK L1]
def PN (R:Type):ZV (ZV (Option R)->zho R):=λx1 x2 kc k0=>
(match decide ((x1.length:Int)>=64) with
|true=>(match (decide ((64:Int)<=(x1.length:Int))) with
|true=>let v6:=([(List.take 64 x1)]:(List LI));(match (decide (x2.length+v6.length<=2199023255552)) with
|true=>(match (decide (0<=(64:Int)/\(64:Int)<=(x1.length:Int)/\(x1.length:Int)<=(x1.length:Int)/\(x1.length:Int)<=(x1.length:Int))) with
|true=>kc (List.take (Int.toNat ((x1.length:Int) - (64:Int))) (List.drop 64 x1)) (x2++v6)
|false=>none)
|false=>none)
|false=>none)
|false=>k0 x1 x2)
theorem zrx (L1:Pi):LEQ (CK L1) (e257 L1) Tryz.f257 PN:=λ_ _ _ _=>by kernel_rfl
def S5:Nat->Pi
 | 0=>λ_ _ _ _=>none
 | n+1=>λR x1 x2 k0=>PN R x1 x2 (λx1 x2=>S5 n R x1 x2 k0) k0
def p257 (L1:Pi):FS:=λR a0 k=>
L1 R a0 ([]:(List LI)) (λx1 x2=>
k x2 x1)
theorem q257 (L1:Pi):EQ (zmn (p257 L1)) (e257 L1) Tryz.f257 [(.tmp 2,131,false),(.tmp 3,25,false)]:=λ_ _ _=>by kernel_rfl
def F257:FS:=p257 (S5 FUEL)
theorem zcx:LKP (CK (S5 FUEL)) 0 17 1 Tryz.f257:=ST.lok (zrx (S5 FUEL)) Dl [] trivial
theorem zs9:OKP (zmn F257):=ST.ok1 (q257 (S5 FUEL)) Dl Tryz.func257 [1] ⟨⟨_,rfl,zcx⟩,trivial⟩
abbrev Z4:=(R:Type)->(LI->Option R)->Option R
def zl9 (F:Z4):Ent:=eV 283 [] [(.arr 64 (.int .u32))] F
def p283:Z4:=λR k=>
k (List.set (List.set (List.set (List.set (List.set (List.set (List.set (List.set (List.set (List.set (List.set (List.set (List.set (List.set (List.set (List.set (List.set (List.set (List.set (List.set (List.set (List.set (List.set (List.set (List.set (List.set (List.set (List.set (List.set (List.set (List.set (List.set (List.set (List.set (List.set (List.set (List.set (List.set (List.set (List.set (List.set (List.set (List.set (List.set (List.set (List.set (List.set (List.set (List.set (List.set (List.set (List.set (List.set (List.set (List.set (List.set (List.set (List.set (List.set (List.set (List.set (List.set (List.set (List.set (replicate 64 (0:Int)) 0 (1116352408:Int)) 1 (1899447441:Int)) 2 (3049323471:Int)) 3 (3921009573:Int)) 4 (961987163:Int)) 5 (1508970993:Int)) 6 (2453635748:Int)) 7 (2870763221:Int)) 8 (3624381080:Int)) 9 (310598401:Int)) 10 (607225278:Int)) 11 (1426881987:Int)) 12 (1925078388:Int)) 13 (2162078206:Int)) 14 (2614888103:Int)) 15 (3248222580:Int)) 16 (3835390401:Int)) 17 (4022224774:Int)) 18 (264347078:Int)) 19 (604807628:Int)) 20 (770255983:Int)) 21 (1249150122:Int)) 22 (1555081692:Int)) 23 (1996064986:Int)) 24 (2554220882:Int)) 25 (2821834349:Int)) 26 (2952996808:Int)) 27 (3210313671:Int)) 28 (3336571891:Int)) 29 (3584528711:Int)) 30 (113926993:Int)) 31 (338241895:Int)) 32 (666307205:Int)) 33 (773529912:Int)) 34 (1294757372:Int)) 35 (1396182291:Int)) 36 (1695183700:Int)) 37 (1986661051:Int)) 38 (2177026350:Int)) 39 (2456956037:Int)) 40 (2730485921:Int)) 41 (2820302411:Int)) 42 (3259730800:Int)) 43 (3345764771:Int)) 44 (3516065817:Int)) 45 (3600352804:Int)) 46 (4094571909:Int)) 47 (275423344:Int)) 48 (430227734:Int)) 49 (506948616:Int)) 50 (659060556:Int)) 51 (883997877:Int)) 52 (958139571:Int)) 53 (1322822218:Int)) 54 (1537002063:Int)) 55 (1747873779:Int)) 56 (1955562222:Int)) 57 (2024104815:Int)) 58 (2227730452:Int)) 59 (2361852424:Int)) 60 (2428436474:Int)) 61 (2756734187:Int)) 62 (3204031479:Int)) 63 (3329325298:Int))
theorem q283:EQ (zl9 p283) (sE 0 2 [] [] []) Tryz.f283 [(.cell 0 239,239,false)]:=λ_ _ _=>by kernel_rfl
def F283:Z4:=p283
theorem zjt:OKP (zl9 F283):=ST.ok0 q283 Dl Tryz.func283
abbrev EZ:=(R:Type)->Int->Int->Int->Int->(Int->Option R)->Option R
def zed (F:EZ):Ent:=eV 322 [(.int .u32),(.int .i64),(.int .i64),(.int .i64)] [(.int .u32)] F
def p322 (F332:EU) (F333:WC):EZ:=λR a0 a1 a2 a3 k=>
F332 R a0 a1 λy1=>
F332 R a0 a2 λy2=>
F333 R a0 a3 λy4=>
k (ixor .u32 (ixor .u32 y1 y2) y4)
theorem q322 (F332:EU) (F333:WC):EQ (zed (p322 F332 F333)) (sE 0 20 [] [zd9 F332,zll F333] []) Tryz.f322 [(.tmp 8,47,false)]:=λ_ _ _=>by kernel_rfl
def F322:EZ:=p322 F332 F333
theorem zsr:OKP (zed F322):=ST.ok0 (q322 F332 F333) (Dk zsl (Dk zx8 Dl)) Tryz.func322
abbrev FG:=(R:Type)->Int->(Int->Option R)->Option R
def zlz (F:FG):Ent:=eV 303 [(.int .u32)] [(.int .u32)] F
def p303 (F322:EZ):FG:=λR a0 k=>
F322 R a0 (17:Int) (19:Int) (10:Int) λy1=>
k y1
theorem q303 (F322:EZ):EQ (zlz (p303 F322)) (sE 0 5 [] [zed F322] []) Tryz.f303 [(.tmp 2,47,false)]:=λ_ _ _=>by kernel_rfl
def F303:FG:=p303 F322
theorem zsy:OKP (zlz F303):=ST.ok0 (q303 F322) (Dk zsr Dl) Tryz.func303
abbrev FF:=(R:Type)->Int->(Int->Option R)->Option R
def zly (F:FF):Ent:=eV 304 [(.int .u32)] [(.int .u32)] F
def p304 (F322:EZ):FF:=λR a0 k=>
F322 R a0 (7:Int) (18:Int) (3:Int) λy1=>
k y1
theorem q304 (F322:EZ):EQ (zly (p304 F322)) (sE 0 5 [] [zed F322] []) Tryz.f304 [(.tmp 2,47,false)]:=λ_ _ _=>by kernel_rfl
def F304:FF:=p304 F322
theorem zsx:OKP (zly F304):=ST.ok0 (q304 F322) (Dk zsr Dl) Tryz.func304
abbrev Z3:=(R:Type)->LI->(LI->Option R)->Option R
def zl8 (F:Z3):Ent:=eV 284 [(.arr 64 (.int .u8))] [(.arr 64 (.int .u32))] F
abbrev ZM (Z:Type):=Int->LI->LI->Z
abbrev zhf (R:Type):=(LI->Option R)->Option R
abbrev Pc:=(R:Type)->ZM (zhf R)
def CB (L:Pc):LEnt:=lM 2 [.fix 1 (.ptr 0 [] (.arr 64 (.int .u8))),.fix 2 (.ptr 1 [] (.arr 64 (.int .u32))),.val 5 (.int .i64),.var 0 (.arr 64 (.int .u8)) false,.var 1 (.arr 64 (.int .u32)) false] 2 [(.exit 0,[.fix 2 (.ptr 1 [] (.arr 64 (.int .u32))),.var 1 (.arr 64 (.int .u32)) false])] L
def e284 (F220:Qw) (F303:FG) (F304:FF) (L2:Pc):=sE 0 46 [] [TP F220,zlz F303,zly F304] [CB L2]
def PE (F220:Qw) (F303:FG) (F304:FF) (R:Type):ZM (ZM (Option R)->zhf R):=λx1 x2 x3 kc k0=>
(match decide (x1<64) with
|true=>let v5:=i64.wrap ((4:Int)*x1);(match decide (v5<64) with
|true=>let v7:=i64.wrap (v5+4);(match (decide (0<=v5/\v5<=v7/\v7<=64)) with
|true=>(match (decide ((4:Int)<=((Int.toNat (v7 - v5)):Nat))) with
|true=>F220 R (List.take 4 (List.drop v5.toNat x2)) λy9=>
(match (bnd x1 (64:Int)) with
|true=>kc (i64.wrap (x1+1)) x2 (x3.set x1.toNat y9)
|false=>none)
|false=>none)
|false=>none)
|false=>let v12:=i64.wrap (x1 - 2);(match (bnd v12 (64:Int)) with
|true=>F303 R (x3.getD v12.toNat 0) λy14=>
let v15:=i64.wrap (x1 - 7);(match (bnd v15 (64:Int)) with
|true=>let v18:=i64.wrap (x1 - 15);(match (bnd v18 (64:Int)) with
|true=>F304 R (x3.getD v18.toNat 0) λy20=>
let v22:=i64.wrap (x1 - 16);(match (bnd v22 (64:Int)) with
|true=>(match (bnd x1 (64:Int)) with
|true=>kc (i64.wrap (x1+1)) x2 (x3.set x1.toNat (u32.wrap ((u32.wrap ((u32.wrap (y14+(x3.getD v15.toNat 0)))+y20))+(x3.getD v22.toNat 0))))
|false=>none)
|false=>none)
|false=>none)
|false=>none)
|false=>none))
|false=>k0 x3)
theorem zro (F220:Qw) (F303:FG) (F304:FF) (L2:Pc):LEQ (CB L2) (e284 F220 F303 F304 L2) Tryz.f284 (PE F220 F303 F304):=λ_ _ _ _=>by kernel_rfl
def Sw:Nat->Pc
 | 0=>λ_ _ _ _ _=>none
 | n+1=>λR x1 x2 x3 k0=>PE F220 F303 F304 R x1 x2 x3 (λx1 x2 x3=>Sw n R x1 x2 x3 k0) k0
def p284 (L2:Pc):Z3:=λR a0 k=>
L2 R (0:Int) a0 (replicate 64 (0:Int)) (λx1=>
k x1)
theorem q284 (F220:Qw) (F303:FG) (F304:FF) (L2:Pc):EQ (zl8 (p284 L2)) (e284 F220 F303 F304 L2) Tryz.f284 [(.cell 2 240,240,false)]:=λ_ _ _=>by kernel_rfl
def F284:Z3:=p284 (Sw FUEL)
theorem zco:LKP (CB (Sw FUEL)) 0 46 2 Tryz.f284:=ST.lok (zro F220 F303 F304 (Sw FUEL)) (Dk zb3 (Dk zsy (Dk zsx Dl))) [] trivial
theorem zjs:OKP (zl8 F284):=ST.ok1 (q284 F220 F303 F304 (Sw FUEL)) (Dk zb3 (Dk zsy (Dk zsx Dl))) Tryz.func284 [2] ⟨⟨_,rfl,zco⟩,trivial⟩
abbrev EY:=(R:Type)->Int->Int->Int->Int->(Int->Option R)->Option R
def zec (F:EY):Ent:=eV 323 [(.int .u32),(.int .i64),(.int .i64),(.int .i64)] [(.int .u32)] F
def p323 (F332:EU):EY:=λR a0 a1 a2 a3 k=>
F332 R a0 a1 λy1=>
F332 R a0 a2 λy2=>
F332 R a0 a3 λy4=>
k (ixor .u32 (ixor .u32 y1 y2) y4)
theorem q323 (F332:EU):EQ (zec (p323 F332)) (sE 0 20 [] [zd9 F332] []) Tryz.f323 [(.tmp 8,47,false)]:=λ_ _ _=>by kernel_rfl
def F323:EY:=p323 F332
theorem zsq:OKP (zec F323):=ST.ok0 (q323 F332) (Dk zsl Dl) Tryz.func323
abbrev WI:=(R:Type)->Int->Int->Int->(Int->Option R)->Option R
def zlx (F:WI):Ent:=eV 305 [(.int .u32),(.int .u32),(.int .u32)] [(.int .u32)] F
def p305 (F323:EY):WI:=λR a0 a1 a2 k=>
F323 R a0 (6:Int) (11:Int) (25:Int) λy1=>
k (u32.wrap (y1+(ixor .u32 (iand .u32 a0 a1) (iand .u32 (ixor .u32 (4294967295:Int) a0) a2))))
theorem q305 (F323:EY):EQ (zlx (p305 F323)) (sE 0 18 [] [zec F323] []) Tryz.f305 [(.tmp 6,47,false)]:=λ_ _ _=>by kernel_rfl
def F305:WI:=p305 F323
theorem zyf:OKP (zlx F305):=ST.ok0 (q305 F323) (Dk zsq Dl) Tryz.func305
abbrev WH:=(R:Type)->Int->Int->Int->(Int->Option R)->Option R
def zlw (F:WH):Ent:=eV 306 [(.int .u32),(.int .u32),(.int .u32)] [(.int .u32)] F
def p306 (F323:EY):WH:=λR a0 a1 a2 k=>
F323 R a0 (2:Int) (13:Int) (22:Int) λy1=>
k (u32.wrap (y1+(ixor .u32 (ixor .u32 (iand .u32 a0 a1) (iand .u32 a0 a2)) (iand .u32 a1 a2))))
theorem q306 (F323:EY):EQ (zlw (p306 F323)) (sE 0 21 [] [zec F323] []) Tryz.f306 [(.tmp 6,47,false)]:=λ_ _ _=>by kernel_rfl
def F306:WH:=p306 F323
theorem zye:OKP (zlw F306):=ST.ok0 (q306 F323) (Dk zsq Dl) Tryz.func306
abbrev Z2:=(R:Type)->LI->Int->Int->(LI->Option R)->Option R
def zl7 (F:Z2):Ent:=eV 285 [(.arr 8 (.int .u32)),(.int .u32),(.int .u32)] [(.arr 8 (.int .u32))] F
def p285 (F305:WI) (F306:WH):Z2:=λR a0 a1 a2 k=>
F305 R (a0.getD 4 0) (a0.getD 5 0) (a0.getD 6 0) λy5=>
let v8:=u32.wrap ((u32.wrap ((u32.wrap ((a0.getD 7 0)+y5))+a2))+a1);let v9:=lay (replicate 8 (0:Int)) 1 (List.take 7 (List.take 7 (List.drop 0 a0)));F306 R (a0.getD 0 0) (a0.getD 1 0) (a0.getD 2 0) λy13=>
let v15:=v9.set 0 (u32.wrap (v8+y13));k (v15.set 4 (u32.wrap ((v15.getD 4 0)+v8)))
theorem q285 (F305:WI) (F306:WH):EQ (zl7 (p285 F305 F306)) (sE 0 41 [] [zlx F305,zlw F306] []) Tryz.f285 [(.cell 6 137,137,false)]:=λ_ _ _=>by kernel_rfl
def F285:Z2:=p285 F305 F306
theorem zjr:OKP (zl7 F285):=ST.ok0 (q285 F305 F306) (Dk zyf (Dk zye Dl)) Tryz.func285
abbrev FR:=(R:Type)->LI->LI->(LI->Option R)->Option R
def zmm (F:FR):Ent:=eV 258 [(.arr 8 (.int .u32)),(.arr 64 (.int .u8))] [(.arr 8 (.int .u32))] F
abbrev ZU (Z:Type):=LI->Int->LI->LI->LI->LI->Z
abbrev zhn (R:Type):=(LI->LI->LI->Option R)->Option R
abbrev Mw:=(R:Type)->ZU (zhn R)
def CJ (L:Mw):LEnt:=lM 3 [.fix 2 (.ptr 0 [] (.arr 8 (.int .u32))),.fix 4 (.ptr 2 [] (.arr 8 (.int .u32))),.fix 5 (.ptr 3 [] (.arr 8 (.int .u32))),.fix 6 (.ptr 4 [] (.arr 64 (.int .u32))),.val 13 (.arr 64 (.int .u32)),.val 14 (.int .i64),.var 0 (.arr 8 (.int .u32)) false,.var 2 (.arr 8 (.int .u32)) false,.var 3 (.arr 8 (.int .u32)) false,.var 4 (.arr 64 (.int .u32)) false] 5 [(.exit 0,[.fix 2 (.ptr 0 [] (.arr 8 (.int .u32))),.fix 4 (.ptr 2 [] (.arr 8 (.int .u32))),.fix 5 (.ptr 3 [] (.arr 8 (.int .u32))),.var 0 (.arr 8 (.int .u32)) false,.var 2 (.arr 8 (.int .u32)) false,.var 3 (.arr 8 (.int .u32)) false])] L
abbrev ZT (Z:Type):=Int->LI->LI->LI->Z
abbrev zhm (R:Type):=(LI->LI->Option R)->Option R
abbrev Mv:=(R:Type)->ZT (zhm R)
def CI (L:Mv):LEnt:=lM 8 [.fix 2 (.ptr 0 [] (.arr 8 (.int .u32))),.fix 4 (.ptr 2 [] (.arr 8 (.int .u32))),.fix 5 (.ptr 3 [] (.arr 8 (.int .u32))),.val 25 (.int .i64),.var 0 (.arr 8 (.int .u32)) false,.var 2 (.arr 8 (.int .u32)) false,.var 3 (.arr 8 (.int .u32)) false] 4 [(.exit 2,[.fix 4 (.ptr 2 [] (.arr 8 (.int .u32))),.fix 5 (.ptr 3 [] (.arr 8 (.int .u32))),.var 2 (.arr 8 (.int .u32)) false,.var 3 (.arr 8 (.int .u32)) false])] L
def e258 (F283:Z4) (F284:Z3) (F285:Z2) (L3:Mw) (L8:Mv):=sE 0 38 [] [zl9 F283,zl8 F284,zl7 F285] [CJ L3,CI L8]
def PM (F285:Z2) (R:Type):ZU (ZU (Option R)->zhn R):=λx1 x2 x3 x4 x5 x6 kc k0=>
(match decide (x2<64) with
|true=>(match (bnd x2 (64:Int)) with
|true=>(match (bnd x2 (64:Int)) with
|true=>F285 R x5 (x1.getD x2.toNat 0) (x6.getD x2.toNat 0) λy10=>
kc x1 (i64.wrap (x2+1)) x3 x4 y10 x6
|false=>none)
|false=>none)
|false=>k0 x3 x4 x5)
theorem zrw (F283:Z4) (F284:Z3) (F285:Z2) (L3:Mw) (L8:Mv):LEQ (CJ L3) (e258 F283 F284 F285 L3 L8) Tryz.f258 (PM F285):=λ_ _ _ _=>by kernel_rfl
def Qk:Nat->Mw
 | 0=>λ_ _ _ _ _ _ _ _=>none
 | n+1=>λR x1 x2 x3 x4 x5 x6 k0=>PM F285 R x1 x2 x3 x4 x5 x6 (λx1 x2 x3 x4 x5 x6=>Qk n R x1 x2 x3 x4 x5 x6 k0) k0
def PL (R:Type):ZT (ZT (Option R)->zhm R):=λx1 x2 x3 x4 kc k0=>
(match decide (x1<8) with
|true=>(match (bnd x1 (8:Int)) with
|true=>(match (bnd x1 (8:Int)) with
|true=>(match (bnd x1 (8:Int)) with
|true=>kc (i64.wrap (x1+1)) x2 x3 (x4.set x1.toNat (u32.wrap ((x4.getD x1.toNat 0)+(x2.getD x1.toNat 0))))
|false=>none)
|false=>none)
|false=>none)
|false=>k0 x3 x4)
theorem zrv (F283:Z4) (F284:Z3) (F285:Z2) (L3:Mw) (L8:Mv):LEQ (CI L8) (e258 F283 F284 F285 L3 L8) Tryz.f258 PL:=λ_ _ _ _=>by kernel_rfl
def Nz:Nat->Mv
 | 0=>λ_ _ _ _ _ _=>none
 | n+1=>λR x1 x2 x3 x4 k0=>PL R x1 x2 x3 x4 (λx1 x2 x3 x4=>Nz n R x1 x2 x3 x4 k0) k0
def p258 (F283:Z4) (F284:Z3) (L3:Mw) (L8:Mv):FR:=λR a0 a1 k=>
F283 R  λy1=>
F284 R a1 λy2=>
L3 R y2 (0:Int) a0 (replicate 8 (0:Int)) a0 y1 (λx3 x4 x5=>
L8 R (0:Int) x3 x4 x5 (λx6 x7=>
k x7))
theorem q258 (F283:Z4) (F284:Z3) (F285:Z2) (L3:Mw) (L8:Mv):EQ (zmm (p258 F283 F284 L3 L8)) (e258 F283 F284 F285 L3 L8) Tryz.f258 [(.cell 4 137,137,false)]:=λ_ _ _=>by kernel_rfl
def F258:FR:=p258 F283 F284 (Qk FUEL) (Nz FUEL)
theorem zcw:LKP (CJ (Qk FUEL)) 0 38 3 Tryz.f258:=ST.lok (zrw F283 F284 F285 (Qk FUEL) (Nz FUEL)) (Dk zjt (Dk zjs (Dk zjr Dl))) [] trivial
theorem zcv:LKP (CI (Nz FUEL)) 0 38 8 Tryz.f258:=ST.lok (zrv F283 F284 F285 (Qk FUEL) (Nz FUEL)) (Dk zjt (Dk zjs (Dk zjr Dl))) [] trivial
theorem zs8:OKP (zmm F258):=ST.ok1 (q258 F283 F284 F285 (Qk FUEL) (Nz FUEL)) (Dk zjt (Dk zjs (Dk zjr Dl))) Tryz.func258 [3,8] ⟨⟨_,rfl,zcw⟩,⟨⟨_,rfl,zcv⟩,trivial⟩⟩
abbrev GA:=(R:Type)->Tq34->LI->(LI->Tq34->Option R)->Option R
def zeu (F:GA):Ent:=eM 210 [(true,Kq34),(false,(.sl (.int .u8)))] [(false,(.sl (.int .u8)))] F
abbrev zak (Z:Type):=LI->(List LI)->Int->Int->Tq34->Z
abbrev zhw (R:Type):=(LI->Tq34->Option R)->Option R
abbrev Pr:=(R:Type)->zak (zhw R)
def CS (L:Pr):LEnt:=lM 3 [.fix 0 (.ptr 0 [] Kq34),.val 6 (.sl (.int .u8)),.val 14 (.sl (.arr 64 (.int .u8))),.val 15 (.int .i64),.val 16 (.int .i64),.var 0 Kq34 false] 1 [(.exit 0,[.val 6 (.sl (.int .u8)),.var 0 Kq34 false])] L
def e210 (F257:FS) (F258:FR) (L3:Pr):=sE 1 33 [] [zmn F257,zmm F258] [CS L3]
def PW (F258:FR) (R:Type):zak (zak (Option R)->zhw R):=λx1 x2 x3 x4 x5 kc k0=>
(match decide (x4<x3) with
|true=>(match bnd x4 x2.length with
|true=>F258 R x5.1.1 (x2.getD x4.toNat (replicate 64 0)) λy8=>
kc x1 x2 x3 (i64.wrap (x4+1)) ((y8,x5.1.2),x5.2)
|false=>none)
|false=>k0 x1 x5)
theorem zr6 (F257:FS) (F258:FR) (L3:Pr):LEQ (CS L3) (e210 F257 F258 L3) Tryz.f210 (PW F258):=λ_ _ _ _=>by kernel_rfl
def Tc:Nat->Pr
 | 0=>λ_ _ _ _ _ _ _=>none
 | n+1=>λR x1 x2 x3 x4 x5 k0=>PW F258 R x1 x2 x3 x4 x5 (λx1 x2 x3 x4 x5=>Tc n R x1 x2 x3 x4 x5 k0) k0
def p210 (F257:FS) (L3:Pr):GA:=λR a0 a1 k=>
F257 R a1 λy1 y2=>
L3 R y2 y1 (y1.length:Int) (0:Int) a0 (λx4 x5=>
k x4 x5)
theorem q210 (F257:FS) (F258:FR) (L3:Pr):EQ (zeu (p210 F257 L3)) (e210 F257 F258 L3) Tryz.f210 [(.tmp 4,25,false)]:=λ_ _ _=>by kernel_rfl
def F210:GA:=p210 F257 (Tc FUEL)
theorem zc6:LKP (CS (Tc FUEL)) 1 33 3 Tryz.f210:=ST.lok (zr6 F257 F258 (Tc FUEL)) (Dk zs9 (Dk zs8 Dl)) [] trivial
theorem ztk:OKP (zeu F210):=ST.ok1 (q210 F257 F258 (Tc FUEL)) (Dk zs9 (Dk zs8 Dl)) Tryz.func210 [3] ⟨⟨_,rfl,zc6⟩,trivial⟩
abbrev GB:=(R:Type)->Tq34->LI->(Tq34->Option R)->Option R
def zm4 (F:GB):Ent:=eM 207 [(true,Kq34),(false,(.sl (.int .u8)))] [] F
def p207 (F210:GA) (F255:zfg):GB:=λR a0 a1 k=>
F255 R a0.1.2.1 λy4=>
(match (decide (y4.length+a1.length<=140737488355328)) with
|true=>F210 R ((a0.1.1,a0.1.2.1,(u64.wrap (a0.1.2.2.1+(u64.wrap (a1.length:Int)))),a0.1.2.2.2),a0.2) (y4++a1) λy6 p7=>
k ((p7.1.1,y6,p7.1.2.2),p7.2)
|false=>none)
theorem q207 (F210:GA) (F255:zfg):EQ (zm4 (p207 F210 F255)) (sE 1 30 [] [zeu F210,zuk F255] []) Tryz.f207 []:=λ_ _ _=>by kernel_rfl
def F207:GB:=p207 F210 F255
theorem ztl:OKP (zm4 F207):=ST.ok0 (q207 F210 F255) (Dk ztk (Dk zyv Dl)) Tryz.func207
abbrev XQ:=(R:Type)->Tq33->(List LI)->(Tq33->Int->Option R)->Option R
def znl (F:XQ):Ent:=eV 162 [Kq33,(.sl (.sl (.int .u8)))] [Kq33,(.int .i64)] F
abbrev zap (Z:Type):=(List LI)->Int->Int->Tq33->Tq34->Z
abbrev zh1 (R:Type):=(Int->Tq33->Option R)->(Tq33->Tq34->Option R)->Option R
abbrev Pu:=(R:Type)->zap (zh1 R)
def CX (L:Pu):LEnt:=lM 5 [.fix 4 (.ptr 1 [] Kq33),.fix 6 (.ptr 2 [] Kq34),.val 15 (.sl (.sl (.int .u8))),.val 16 (.int .i64),.val 17 (.int .i64),.var 1 Kq33 false,.var 2 Kq34 false] 3 [(.ret,[.fix 4 (.ptr 1 [] Kq33),.val 5 (.int .i64),.var 1 Kq33 false]),(.exit 0,[.fix 4 (.ptr 1 [] Kq33),.fix 6 (.ptr 2 [] Kq34),.var 1 Kq33 false,.var 2 Kq34 false])] L
def e162 (F206:GC) (F207:GB) (L5:Pu):=sE 0 31 [] [zm5 F206,zm4 F207] [CX L5]
def ID (F207:GB) (R:Type):zap (zap (Option R)->zh1 R):=λx1 x2 x3 x4 x5 kc k0 k1=>
(match decide (x3<x2) with
|true=>(match bnd x3 x1.length with
|true=>F207 R x5 (x1.getD x3.toNat []) λp8=>
(match decide (p8.1.2.2.1>=2305843009213693952) with
|true=>k0 (11:Int) ((replicate 8 (0:Int)),([]:LI),(0:Int),())
|false=>kc x1 x2 (i64.wrap (x3+1)) x4 p8)
|false=>none)
|false=>k1 x4 x5)
theorem zsb (F206:GC) (F207:GB) (L5:Pu):LEQ (CX L5) (e162 F206 F207 L5) Tryz.f162 (ID F207):=λ_ _ _ _=>by kernel_rfl
def Qm:Nat->Pu
 | 0=>λ_ _ _ _ _ _ _ _=>none
 | n+1=>λR x1 x2 x3 x4 x5 k0 k1=>ID F207 R x1 x2 x3 x4 x5 (λx1 x2 x3 x4 x5=>Qm n R x1 x2 x3 x4 x5 k0 k1) k0 k1
def p162 (F206:GC) (L5:Pu):XQ:=λR a0 a1 k=>
F206 R a0 λy1=>
(match (!y1) with
|true=>k ((replicate 8 (0:Int)),([]:LI),(0:Int),()) (1:Int)
|false=>L5 R a1 (a1.length:Int) (0:Int) ((replicate 8 (0:Int)),([]:LI),(0:Int),()) (a0,()) (λx3 x4=>
k x4 x3) (λx5 x6=>
k x6.1 (0:Int)))
theorem q162 (F206:GC) (F207:GB) (L5:Pu):EQ (znl (p162 F206 L5)) (e162 F206 F207 L5) Tryz.f162 [(.cell 4 233,233,false),(.tmp 5,40,false)]:=λ_ _ _=>by kernel_rfl
def F162:XQ:=p162 F206 (Qm FUEL)
theorem zdb:LKP (CX (Qm FUEL)) 0 31 5 Tryz.f162:=ST.lok (zsb F206 F207 (Qm FUEL)) (Dk ztm (Dk ztl Dl)) [] trivial
theorem zzm:OKP (znl F162):=ST.ok1 (q162 F206 F207 (Qm FUEL)) (Dk ztm (Dk ztl Dl)) Tryz.func162 [5] ⟨⟨_,rfl,zdb⟩,trivial⟩
abbrev WT:=(R:Type)->Int->(Int->Option R)->Option R
def zmo (F:WT):Ent:=eV 256 [(.int .u64)] [(.int .u64)] F
def p256:WT:=λR a0 k=>
(match decide (a0>=2305843009213693952) with
|true=>k (0:Int)
|false=>k (u64.wrap (Int.tdiv (u64.wrap ((u64.wrap (a0+8))+64)) (64:Int))))
theorem q256:EQ (zmo p256) (sE 0 9 [] [] []) Tryz.f256 [(.tmp 2,32,false)]:=λ_ _ _=>by kernel_rfl
def F256:WT:=p256
theorem zyu:OKP (zmo F256):=ST.ok0 q256 Dl Tryz.func256
abbrev XD:=(R:Type)->LI->Int->(LI->Bool->Option R)->Option R
def zm2 (F:XD):Ent:=eV 209 [(.sl (.int .u8)),(.int .u64)] [(.sl (.int .u8)),.bool] F
def p209 (F115:N9) (F256:WT):XD:=λR a0 a1 k=>
(match decide (a1>=2305843009213693952) with
|true=>k ([]:LI) false
|false=>(match (u64.wrap (a0.length:Int)) !=(Int.tmod a1 (64:Int)) with
|true=>k ([]:LI) false
|false=>F256 R a1 λy6=>
let v10:=i64.wrap ((i64.wrap (u64.wrap (y6 - (u64.wrap (Int.tdiv a1 (64:Int))))))*64);(match (decide (0<=v10/\v10<=v10/\v10<=140737488355328)) with
|true=>let v11:=replicate v10.toNat (0:Int);let v12:=lay v11 0 (List.take (v11.length) a0);let v13:=(a0.length:Int);(match bnd v13 v12.length with
|true=>let v14:=v12.set v13.toNat (128:Int);F115 R (ishl .u64 a1 (3:Int)) λy16=>
let v17:=i64.wrap (v10 - 8);(match (decide (0<=v17/\v17<=(v14.length:Int)/\(v14.length:Int)<=(v14.length:Int)/\(v14.length:Int)<=(v14.length:Int))) with
|true=>k (lay v14 v17.toNat (List.take (Int.toNat ((v14.length:Int) - v17)) (List.take 8 (List.drop 0 y16)))) true
|false=>none)
|false=>none)
|false=>none)))
theorem q209 (F115:N9) (F256:WT):EQ (zm2 (p209 F115 F256)) (sE 0 45 [] [DK F115,zmo F256] []) Tryz.f209 [(.tmp 4,25,false),(.tmp 5,4,false)]:=λ_ _ _=>by kernel_rfl
def F209:XD:=p209 F115 F256
theorem zy9:OKP (zm2 F209):=ST.ok0 (q209 F115 F256) (Dk QM (Dk zyu Dl)) Tryz.func209
abbrev XC:=(R:Type)->Tq34->(LI->Tq34->Option R)->Option R
def zm1 (F:XC):Ent:=eM 211 [(true,Kq34)] [(false,(.arr 32 (.int .u8)))] F
abbrev zaj (Z:Type):=LI->Int->Tq34->LI->Z
abbrev zhv (R:Type):=(Tq34->LI->Option R)->Option R
abbrev Pq:=(R:Type)->zaj (zhv R)
def CR (L:Pq):LEnt:=lM 2 [.fix 2 (.ptr 1 [] (.arr 32 (.int .u8))),.val 10 (.arr 8 (.int .u32)),.val 11 (.int .i64),.var 0 Kq34 false,.var 1 (.arr 32 (.int .u8)) false] 2 [(.exit 0,[.fix 2 (.ptr 1 [] (.arr 32 (.int .u8))),.var 0 Kq34 false,.var 1 (.arr 32 (.int .u8)) false])] L
def e211 (F218:Qx) (L2:Pq):=sE 1 24 [] [TQ F218] [CR L2]
def PV (F218:Qx) (R:Type):zaj (zaj (Option R)->zhv R):=λx1 x2 x3 x4 kc k0=>
(match decide (x2<8) with
|true=>(match (bnd x2 (8:Int)) with
|true=>F218 R (x1.getD x2.toNat 0) λy7=>
let v8:=i64.wrap ((4:Int)*x2);(match (decide (0<=v8/\v8<=(32:Int)/\(32:Int)<=(32:Int))) with
|true=>kc x1 (i64.wrap (x2+1)) x3 (lay x4 v8.toNat (List.take (Int.toNat ((32:Int) - v8)) (List.take 4 (List.drop 0 y7))))
|false=>none)
|false=>none)
|false=>k0 x3 x4)
theorem zr5 (F218:Qx) (L2:Pq):LEQ (CR L2) (e211 F218 L2) Tryz.f211 (PV F218):=λ_ _ _ _=>by kernel_rfl
def Tb:Nat->Pq
 | 0=>λ_ _ _ _ _ _=>none
 | n+1=>λR x1 x2 x3 x4 k0=>PV F218 R x1 x2 x3 x4 (λx1 x2 x3 x4=>Tb n R x1 x2 x3 x4 k0) k0
def p211 (L2:Pq):XC:=λR a0 k=>
L2 R a0.1.1 (0:Int) a0 (replicate 32 (0:Int)) (λx1 x2=>
k x2 x1)
theorem q211 (F218:Qx) (L2:Pq):EQ (zm1 (p211 L2)) (e211 F218 L2) Tryz.f211 [(.cell 2 24,24,false)]:=λ_ _ _=>by kernel_rfl
def F211:XC:=p211 (Tb FUEL)
theorem zc5:LKP (CR (Tb FUEL)) 1 24 2 Tryz.f211:=ST.lok (zr5 F218 (Tb FUEL)) (Dk zb4 Dl) [] trivial
theorem zy8:OKP (zm1 F211):=ST.ok1 (q211 F218 (Tb FUEL)) (Dk zb4 Dl) Tryz.func211 [2] ⟨⟨_,rfl,zc5⟩,trivial⟩
abbrev XO:=(R:Type)->Tq33->(LI->Int->Option R)->Option R
def znj (F:XO):Ent:=eV 164 [Kq33] [(.arr 32 (.int .u8)),(.int .i64)] F
def p164 (F209:XD) (F210:GA) (F211:XC):XO:=λR a0 k=>
F209 R a0.2.1 a0.2.2.1 λy1 y2=>
(match (!y2) with
|true=>k (replicate 32 (0:Int)) (1:Int)
|false=>F210 R (a0,()) y1 λy4 p5=>
F211 R p5 λy6 p7=>
k y6 (0:Int))
theorem q164 (F209:XD) (F210:GA) (F211:XC):EQ (znj (p164 F209 F210 F211)) (sE 0 23 [] [zm2 F209,zeu F210,zm1 F211] []) Tryz.f164 [(.cell 2 24,24,false),(.tmp 3,40,false)]:=λ_ _ _=>by kernel_rfl
def F164:XO:=p164 F209 F210 F211
theorem zzk:OKP (znj F164):=ST.ok0 (q164 F209 F210 F211) (Dk zy9 (Dk ztk (Dk zy8 Dl))) Tryz.func164
abbrev Ww:=(R:Type)->(List LI)->(LI->Option R)->Option R
def TU (F:Ww):Ent:=eV 116 [(.sl (.sl (.int .u8)))] [(.arr 32 (.int .u8))] F
def p116 (F162:XQ) (F163:XP) (F164:XO):Ww:=λR a0 k=>
F163 R  λy1=>
F162 R y1 a0 λy2 y3=>
F164 R y2 λy4 y5=>
k y4
theorem q116 (F162:XQ) (F163:XP) (F164:XO):EQ (TU (p116 F162 F163 F164)) (sE 0 19 [] [znl F162,znk F163,znj F164] []) Tryz.f116 [(.cell 2 24,24,false)]:=λ_ _ _=>by kernel_rfl
def F116:Ww:=p116 F162 F163 F164
theorem zj8:OKP (TU F116):=ST.ok0 (q116 F162 F163 F164) (Dk zzm (Dk zzl (Dk zzk Dl))) Tryz.func116
abbrev FU:=(R:Type)->LI->(LI->Option R)->Option R
def zem (F:FU):Ent:=eV 236 [(.arr 32 (.int .u8))] [(.arr 32 (.int .u8))] F
def p236 (F116:Ww):FU:=λR a0 k=>
F116 R ([(List.take 32 (List.drop 0 a0))]:(List LI)) λy2=>
k y2
theorem q236 (F116:Ww):EQ (zem (p236 F116)) (sE 0 6 [] [TU F116] []) Tryz.f236 [(.cell 2 24,24,false)]:=λ_ _ _=>by kernel_rfl
def F236:FU:=p236 F116
theorem zta:OKP (zem F236):=ST.ok0 (q236 F116) (Dk zj8 Dl) Tryz.func236
abbrev FN:=(R:Type)->Tq3->(Bool->Option R)->Option R
def zmj (F:FN):Ent:=eV 265 [Kq3] [.bool] F
def p265 (F236:FU):FN:=λR a0 k=>
(match a0.2.2.1 with
|true=>(match decide (a0.1>=0) with
|true=>F236 R a0.2.2.2.1 λy2=>
k (Kd.eqv (.arr 32 (.int .u8)) y2 a0.2.1)
|false=>k false)
|false=>(match decide (a0.1>=0) with
|true=>k (Kd.eqv (.arr 32 (.int .u8)) a0.2.2.2.1 (replicate 32 (0:Int)))
|false=>k false))
theorem q265 (F236:FU):EQ (zmj (p265 F236)) (sE 0 25 [] [zem F236] []) Tryz.f265 [(.tmp 2,4,false)]:=λ_ _ _=>by kernel_rfl
def F265:FN:=p265 F236
theorem zs5:OKP (zmj F265):=ST.ok0 (q265 F236) (Dk zta Dl) Tryz.func265
abbrev Tt:=(R:Type)->(List Tq3)->(Bool->Option R)->Option R
def TM (F:Tt):Ent:=eV 231 [(.sl Kq3)] [.bool] F
abbrev ZZ (Z:Type):=(List Tq3)->(List Tq3)->Int->Int->Z
abbrev zhs (R:Type):=(Bool->Option R)->(Option R)->Option R
abbrev Pm:=(R:Type)->ZZ (zhs R)
def CO (L:Pm):LEnt:=lM 2 [.val 0 (.sl Kq3),.val 5 (.sl Kq3),.val 6 (.int .i64),.val 7 (.int .i64)] 0 [(.ret,[.val 2 .bool]),(.exit 0,[])] L
def e231 (F265:FN) (L2:Pm):=sE 0 31 [] [zmj F265] [CO L2]
def PR (F265:FN) (R:Type):ZZ (ZZ (Option R)->zhs R):=λx1 x2 x3 x4 kc k0 k1=>
(match decide (x4<x3) with
|true=>(match bnd x4 x2.length with
|true=>let v6:=x2.getD x4.toNat (0,(replicate 32 0),false,(replicate 32 0),());F265 R v6 λy7=>
(match (!y7) with
|true=>k0 false
|false=>(match decide (x4>0) with
|true=>let v9:=i64.wrap (x4 - 1);(match bnd v9 x1.length with
|true=>(match decide (((x1.getD v9.toNat (0,(replicate 32 0),false,(replicate 32 0),())).1)>=v6.1) with
|true=>k0 false
|false=>kc x1 x2 x3 (i64.wrap (x4+1)))
|false=>none)
|false=>kc x1 x2 x3 (i64.wrap (x4+1))))
|false=>none)
|false=>k1)
theorem zr1 (F265:FN) (L2:Pm):LEQ (CO L2) (e231 F265 L2) Tryz.f231 (PR F265):=λ_ _ _ _=>by kernel_rfl
def S9:Nat->Pm
 | 0=>λ_ _ _ _ _ _ _=>none
 | n+1=>λR x1 x2 x3 x4 k0 k1=>PR F265 R x1 x2 x3 x4 (λx1 x2 x3 x4=>S9 n R x1 x2 x3 x4 k0 k1) k0 k1
def p231 (L2:Pm):Tt:=λR a0 k=>
L2 R a0 a0 (a0.length:Int) (0:Int) (λx2=>
k x2) (k true)
theorem q231 (F265:FN) (L2:Pm):EQ (TM (p231 L2)) (e231 F265 L2) Tryz.f231 [(.tmp 2,4,false)]:=λ_ _ _=>by kernel_rfl
def F231:Tt:=p231 (S9 FUEL)
theorem zc1:LKP (CO (S9 FUEL)) 0 31 2 Tryz.f231:=ST.lok (zr1 F265 (S9 FUEL)) (Dk zs5 Dl) [] trivial
theorem zjy:OKP (TM F231):=ST.ok1 (q231 F265 (S9 FUEL)) (Dk zs5 Dl) Tryz.func231 [2] ⟨⟨_,rfl,zc1⟩,trivial⟩
abbrev FT79:=(R:Type)->(List LI)->(LI->Option R)->Option R
def en79 (F:FT79):Ent:=eV 79 [(.sl (.arr 32 (.int .u8)))] [(.arr 32 (.int .u8))] F
abbrev zqo (Z:Type):=(List LI)->Int->Int->LI->Z
abbrev zvv (R:Type):=(LI->Option R)->Option R
abbrev Sr:=(R:Type)->zqo (zvv R)
def RE (L:Sr):LEnt:=lM 2 [.fix 2 (.ptr 0 [] (.arr 32 (.int .u8))),.val 7 (.sl (.arr 32 (.int .u8))),.val 8 (.int .i64),.val 9 (.int .i64),.var 0 (.arr 32 (.int .u8)) false] 1 [(.exit 0,[.fix 2 (.ptr 0 [] (.arr 32 (.int .u8))),.var 0 (.arr 32 (.int .u8)) false])] L
abbrev zqn (Z:Type):=(List LI)->Int->Int->LI->Int->LI->Z
abbrev zvu (R:Type):=((List LI)->Int->Int->LI->Option R)->Option R
abbrev Sq:=(R:Type)->zqn (zvu R)
def RC (L:Sq):LEnt:=lM 5 [.fix 2 (.ptr 0 [] (.arr 32 (.int .u8))),.val 7 (.sl (.arr 32 (.int .u8))),.val 8 (.int .i64),.val 9 (.int .i64),.val 13 (.arr 32 (.int .u8)),.val 14 (.int .i64),.var 0 (.arr 32 (.int .u8)) false] 1 [(.exit 2,[.fix 2 (.ptr 0 [] (.arr 32 (.int .u8))),.val 7 (.sl (.arr 32 (.int .u8))),.val 8 (.int .i64),.val 9 (.int .i64),.var 0 (.arr 32 (.int .u8)) false])] L
def e79 (L2:Sr) (L5:Sq):=sE 0 27 [] [] [RE L2,RC L5]
def zbt (R:Type):zqn (zqn (Option R)->zvu R):=λx1 x2 x3 x4 x5 x6 kc k0=>
(match decide (x5<32) with
|true=>(match (bnd x5 (32:Int)) with
|true=>(match (bnd x5 (32:Int)) with
|true=>(match (bnd x5 (32:Int)) with
|true=>kc x1 x2 x3 x4 (i64.wrap (x5+1)) (x6.set x5.toNat (ixor .u8 (x6.getD x5.toNat 0) (x4.getD x5.toNat 0)))
|false=>none)
|false=>none)
|false=>none)
|false=>k0 x1 x2 x3 x6)
theorem zxp (L2:Sr) (L5:Sq):LEQ (RC L5) (e79 L2 L5) Tryz.f79 zbt:=λ_ _ _ _=>by kernel_rfl
def Wl:Nat->Sq
 | 0=>λ_ _ _ _ _ _ _ _=>none
 | n+1=>λR x1 x2 x3 x4 x5 x6 k0=>zbt R x1 x2 x3 x4 x5 x6 (λx1 x2 x3 x4 x5 x6=>Wl n R x1 x2 x3 x4 x5 x6 k0) k0
def zjb (L5:Sq) (R:Type):zqo (zqo (Option R)->zvv R):=λx1 x2 x3 x4 kc k0=>
(match decide (x3<x2) with
|true=>(match bnd x3 x1.length with
|true=>L5 R x1 x2 x3 (x1.getD x3.toNat (replicate 32 0)) (0:Int) x4 (λx7 x8 x9 x10=>
kc x7 x8 (i64.wrap (x9+1)) x10)
|false=>none)
|false=>k0 x4)
theorem zxq (L2:Sr) (L5:Sq):LEQ (RE L2) (e79 L2 L5) Tryz.f79 (zjb L5):=λ_ _ _ _=>by kernel_rfl
def Zm:Nat->Sr
 | 0=>λ_ _ _ _ _ _=>none
 | n+1=>λR x1 x2 x3 x4 k0=>zjb (Wl FUEL) R x1 x2 x3 x4 (λx1 x2 x3 x4=>Zm n R x1 x2 x3 x4 k0) k0
def p79 (L2:Sr):FT79:=λR a0 k=>
L2 R a0 (a0.length:Int) (0:Int) (replicate 32 (0:Int)) (λx2=>
k x2)
theorem q79 (L2:Sr) (L5:Sq):EQ (en79 (p79 L2)) (e79 L2 L5) Tryz.f79 [(.cell 2 24,24,false)]:=λ_ _ _=>by kernel_rfl
def F79:FT79:=p79 (Zm FUEL)
theorem zkh:LKP (RC (Wl FUEL)) 0 27 5 Tryz.f79:=ST.lok (zxp (Zm FUEL) (Wl FUEL)) Dl [] trivial
theorem zki:LKP (RE (Zm FUEL)) 0 27 2 Tryz.f79:=ST.lok (zxq (Zm FUEL) (Wl FUEL)) Dl [5] ⟨⟨_,rfl,zkh⟩,trivial⟩
theorem ok79:OKP (en79 F79):=ST.ok1 (q79 (Zm FUEL) (Wl FUEL)) Dl Tryz.func79 [2] ⟨⟨_,rfl,zki⟩,trivial⟩
abbrev FV:=(R:Type)->(List Tq3)->(LI->Option R)->Option R
def zen (F:FV):Ent:=eV 235 [(.sl Kq3)] [(.arr 32 (.int .u8))] F
abbrev ZY (Z:Type):=(List Tq3)->Int->Int->LI->Z
abbrev zhr (R:Type):=(LI->Option R)->Option R
abbrev Pl:=(R:Type)->ZY (zhr R)
def CN (L:Pl):LEnt:=lM 2 [.fix 2 (.ptr 0 [] (.arr 32 (.int .u8))),.val 5 (.sl Kq3),.val 6 (.int .i64),.val 7 (.int .i64),.var 0 (.arr 32 (.int .u8)) false] 1 [(.exit 0,[.fix 2 (.ptr 0 [] (.arr 32 (.int .u8))),.var 0 (.arr 32 (.int .u8)) false])] L
def e235 (F79:FT79) (L2:Pl):=sE 0 20 [] [en79 F79] [CN L2]
def PQ (F79:FT79) (R:Type):ZY (ZY (Option R)->zhr R):=λx1 x2 x3 x4 kc k0=>
(match decide (x3<x2) with
|true=>(match bnd x3 x1.length with
|true=>let v6:=x1.getD x3.toNat (0,(replicate 32 0),false,(replicate 32 0),());(match v6.2.2.1 with
|true=>F79 R ([x4,v6.2.2.2.1]:(List LI)) λy8=>
kc x1 x2 (i64.wrap (x3+1)) y8
|false=>kc x1 x2 (i64.wrap (x3+1)) x4)
|false=>none)
|false=>k0 x4)
theorem zr0 (F79:FT79) (L2:Pl):LEQ (CN L2) (e235 F79 L2) Tryz.f235 (PQ F79):=λ_ _ _ _=>by kernel_rfl
def S8:Nat->Pl
 | 0=>λ_ _ _ _ _ _=>none
 | n+1=>λR x1 x2 x3 x4 k0=>PQ F79 R x1 x2 x3 x4 (λx1 x2 x3 x4=>S8 n R x1 x2 x3 x4 k0) k0
def p235 (L2:Pl):FV:=λR a0 k=>
L2 R a0 (a0.length:Int) (0:Int) (replicate 32 (0:Int)) (λx2=>
k x2)
theorem q235 (F79:FT79) (L2:Pl):EQ (zen (p235 L2)) (e235 F79 L2) Tryz.f235 [(.cell 2 24,24,false)]:=λ_ _ _=>by kernel_rfl
def F235:FV:=p235 (S8 FUEL)
theorem zc0:LKP (CN (S8 FUEL)) 0 20 2 Tryz.f235:=ST.lok (zr0 F79 (S8 FUEL)) (Dk ok79 Dl) [] trivial
theorem ztb:OKP (zen F235):=ST.ok1 (q235 F79 (S8 FUEL)) (Dk ok79 Dl) Tryz.func235 [2] ⟨⟨_,rfl,zc0⟩,trivial⟩
abbrev FX:=(R:Type)->Tq24->(Bool->Option R)->Option R
def zep (F:FX):Ent:=eV 230 [Kq24] [.bool] F
def p230 (F231:Tt) (F235:FV):FX:=λR a0 k=>
F231 R a0.2.2.2.1 λy1=>
(match y1 with
|true=>F235 R a0.2.2.2.1 λy2=>
k (Kd.eqv (.arr 32 (.int .u8)) y2 a0.2.2.1)
|false=>k false)
theorem q230 (F231:Tt) (F235:FV):EQ (zep (p230 F231 F235)) (sE 0 14 [] [TM F231,zen F235] []) Tryz.f230 [(.tmp 2,4,false)]:=λ_ _ _=>by kernel_rfl
def F230:FX:=p230 F231 F235
theorem zte:OKP (zep F230):=ST.ok0 (q230 F231 F235) (Dk zjy (Dk ztb Dl)) Tryz.func230
abbrev GE:=(R:Type)->Tq24->Int->Int->(Int->Option R)->Option R
def zex (F:GE):Ent:=eV 182 [Kq24,(.int .i64),(.int .i64)] [(.int .i64)] F
def p182 (F230:FX):GE:=λR a0 a1 a2 k=>
F230 R a0 λy1=>
(match (!y1) with
|true=>k (1:Int)
|false=>(match a1 !=a2 with
|true=>k (7:Int)
|false=>k (0:Int)))
theorem q182 (F230:FX):EQ (zex (p182 F230)) (sE 0 15 [] [zep F230] []) Tryz.f182 [(.tmp 6,40,false)]:=λ_ _ _=>by kernel_rfl
def F182:GE:=p182 F230
theorem zto:OKP (zex F182):=ST.ok0 (q182 F230) (Dk zte Dl) Tryz.func182
abbrev WK:=(R:Type)->Int->(Bool->Option R)->Option R
def zl5 (F:WK):Ent:=eV 287 [(.int .i64)] [.bool] F
def p287:WK:=λR a0 k=>
k (a0 !=a0)
theorem q287:EQ (zl5 p287) (sE 0 6 [] [] []) Tryz.f287 [(.tmp 2,4,false)]:=λ_ _ _=>by kernel_rfl
def F287:WK:=p287
theorem zyi:OKP (zl5 F287):=ST.ok0 q287 Dl Tryz.func287
abbrev WS:=(R:Type)->Int->Int->(Int->Option R)->Option R
def zmh (F:WS):Ent:=eV 268 [(.int .i64),(.int .i64)] [(.int .i64)] F
def p268 (F287:WK):WS:=λR a0 a1 k=>
F287 R a0 λy1=>
F287 R a1 λy2=>
(match y1 with
|true=>(match y2 with
|true=>k (0:Int)
|false=>k (-1:Int))
|false=>(match y2 with
|true=>k (1:Int)
|false=>(match decide (a0<a1) with
|true=>k (-1:Int)
|false=>(match decide (a0>a1) with
|true=>k (1:Int)
|false=>k (0:Int)))))
theorem q268 (F287:WK):EQ (zmh (p268 F287)) (sE 0 20 [] [zl5 F287] []) Tryz.f268 [(.tmp 4,3,false)]:=λ_ _ _=>by kernel_rfl
def F268:WS:=p268 F287
theorem zyq:OKP (zmh F268):=ST.ok0 (q268 F287) (Dk zyi Dl) Tryz.func268
abbrev Z5:=(R:Type)->Tq3->Int->(Int->Option R)->Option R
def zmi (F:Z5):Ent:=eV 267 [Kq3,(.int .i64)] [(.int .i64)] F
def p267 (F268:WS):Z5:=λR a0 a1 k=>
F268 R a0.1 a1 λy1=>
k y1
theorem q267 (F268:WS):EQ (zmi (p267 F268)) (sE 0 9 [] [zmh F268] []) Tryz.f267 [(.tmp 4,3,false)]:=λ_ _ _=>by kernel_rfl
def F267:Z5:=p267 F268
theorem zyr:OKP (zmi F267):=ST.ok0 (q267 F268) (Dk zyq Dl) Tryz.func267
abbrev J9:Type 1:=(R:Type)->(List Tq3)->Int->(Int->Bool->Option R)->Option R
def I3 (F:J9):EntF:=⟨266,267,[(false,(.sl Kq3)),(false,(.int .i64))],[(false,(.int .i64)),(false,.bool)],λR x k=>F R x.1 x.2.1 (λy1 y2=>k (y1,y2,()) ())⟩
def Xx:List (ResultVar×TypeId×Bool):=[(.tmp 6,3,false),(.tmp 7,4,false)]
abbrev Ig:Type 1:=(R:Type)->(List Tq3)->Int->Int->Int->Int->((List Tq3)->Int->Int->Int->Option R)->Option R
def Ev (L:Ig):LEnt:=⟨3,[.val 0 (.sl Kq3),.val 1 (.int .i64),.fix 2 (.fn 267),.val 8 (.int .i64),.val 9 (.int .i64),.val 10 (.int .i64)],0,[(.exit 0,[.val 0 (.sl Kq3),.val 1 (.int .i64),.fix 2 (.fn 267),.val 8 (.int .i64),.val 9 (.int .i64)])],λR x ke=>L R x.1 x.2.1 x.2.2.1 x.2.2.2.1 x.2.2.2.2.1 (λy1 y2 y3 y4=>ke.1 (y1,y2,y3,y4,()))⟩
def R8 (F267:Z5) (L3:Ig) (R:Type):Env R:=⟨TT,EQT,0,49,E2 [],En [zmi F267] R,Et [Ev L3] R,[],Ep [],[],λ_ _ _ _=>none⟩
def Nf (F267:Z5):(R:Type)->(List Tq3)->Int->Int->Int->Int->((List Tq3)->Int->Int->Int->Int->Option R)->((List Tq3)->Int->Int->Int->Option R)->Option R:=λR x1 x2 x3 x4 x5 kc k0=>
(match decide (x4<x5) with
|true=>let v10:=i64.wrap (ishr .u64 (u64.wrap (i64.wrap (x4+x5))) (1:Int));(match bnd v10 x1.length with
|true=>F267 R (x1.getD v10.toNat (0,(replicate 32 0),false,(replicate 32 0),())) x2 λy12=>
(match decide (y12<0) with
|true=>kc x1 x2 x3 (i64.wrap (v10+1)) x5
|false=>kc x1 x2 x3 x4 v10)
|false=>none)
|false=>k0 x1 x2 x3 x4)
theorem OM (F267:Z5) (L3:Ig) (R:Type) (x:HT (Ev L3).H) (kc:HT (Ev L3).H->Option R) (ke:KT R (Ev L3).exs):
 exec (R8 F267 L3 R) (Fu 3 (Ds Tryz.f266)) (stOf (Ev L3).H x 0) (P3 (Ev L3).H (Ev L3).exs kc ke)=
  Nf F267 R x.1 x.2.1 x.2.2.1 x.2.2.2.1 x.2.2.2.2.1 (λx1 x2 x3 x4 x5=>kc (x1,x2,x3,x4,x5,())) (λy1 y2 y3 y4=>ke.1 (y1,y2,y3,y4,())):=by kernel_rfl
def Ei:Nat->Ig
 | 0=>λ_ _ _ _ _ _ _=>none
 | n+1=>λR x1 x2 x3 x4 x5 k0=>Nf F267 R x1 x2 x3 x4 x5 (λx1 x2 x3 x4 x5=>Ei n R x1 x2 x3 x4 x5 k0) k0
def AZ (F267:Z5) (L3:Ig):J9:=λR a0 a1 k=>
let v1:=(a0.length:Int);L3 R a0 a1 v1 (0:Int) v1 (λx2 x3 x4 x5=>
(match decide (x5<x4) with
|true=>(match bnd x5 x2.length with
|true=>F267 R (x2.getD x5.toNat (0,(replicate 32 0),false,(replicate 32 0),())) x3 λy8=>
k x5 (y8==0)
|false=>none)
|false=>k x5 false))
theorem ziv (F267:Z5) (L3:Ig) (F:J9) (R:Type) (x:AT (I3 F).ins) (k:RT (I3 F).outs->PT (I3 F).ins->Option R):
 xfun (R8 F267 L3 R) (Ds Tryz.f266) Xx (avs (I3 F).ins x++[AV.fn 267]) (finK (I3 F).outs (I3 F).ins k)=AZ F267 L3 R x.1 x.2.1 (λy1 y2=>k (y1,y2,()) ()):=by kernel_rfl
def Ha:J9:=AZ F267 (Ei FUEL)
theorem Yt (R:Type):D7 Tryz.prog (R8 F267 (Ei FUEL) R):=⟨tabOK,eqOK,Dz (Dk zyr Dl),E7,Du,noYl⟩
def K8:(R:Type)->HT (Ev (Ei FUEL)).H->(HT (Ev (Ei FUEL)).H->Option R)->KT R (Ev (Ei FUEL)).exs->Option R:=λR x kc ke=>Nf F267 R x.1 x.2.1 x.2.2.1 x.2.2.2.1 x.2.2.2.2.1 (λx1 x2 x3 x4 x5=>kc (x1,x2,x3,x4,x5,())) (λy1 y2 y3 y4=>ke.1 (y1,y2,y3,y4,()))
theorem LG:∀(n:Nat) (R:Type) (x:HT (Ev (Ei FUEL)).H) (ke:KT R (Ev (Ei FUEL)).exs),iter K8 n R x ke=Ei n R x.1 x.2.1 x.2.2.1 x.2.2.2.1 x.2.2.2.2.1 (λy1 y2 y3 y4=>ke.1 (y1,y2,y3,y4,())):=by
 intro n
 induction n with
 | zero=>intro R x ke; rfl
 | succ n ih=>
  intro R x ke;show K8 R x (λx'=>iter K8 n R x' ke) ke=_
  rw [show (λx'=>iter K8 n R x' ke)=λx=>Ei n R x.1 x.2.1 x.2.2.1 x.2.2.2.1 x.2.2.2.2.1 (λy1 y2 y3 y4=>ke.1 (y1,y2,y3,y4,())) from funext λx'=>ih R x' ke];rfl
theorem BP:(Ev (Ei FUEL)).OK Tryz.prog 0 49 (Fu 3 (Ds Tryz.f266)):=⟨⟨λ_ h=>(by cases h),by kernel_rfl⟩,λR x ke r h=>
 Ib (λR=>R8 F267 (Ei FUEL) R) 0 49 (λ_=>rfl) (λ_=>rfl) (λR=>Yt R) mixed (by
  intro R;rw [show Dy (Fu 3 (Ds Tryz.f266))=[] from by kernel_rfl];exact E3) (λ_ h=>(by cases h)) (Rt (by kernel_rfl)) (T:=K8) (λR x kc ke=>OM F267 (Ei FUEL) R x kc ke) FUEL R x ke r ((LG FUEL R x ke).trans h)⟩
theorem zbz:(I3 Ha).OK Tryz.prog:=
 Mo (Ef:=λR=>R8 F267 (Ei FUEL) R) (λR=>Yt R) mixed Tryz.func266 (body:=Ds Tryz.f266) (by kernel_rfl) (by kernel_rfl) (np:=0) (nt:=49) (λ_=>rfl) (λ_=>rfl) (by kernel_rfl) (res:=Xx) (by kernel_rfl) (λ_=>rfl) (λ_=>Bj rfl) (by
  intro R;rw [show Dy (Ds Tryz.f266)=[Fu 3 (Ds Tryz.f266)] from by kernel_rfl];exact (Dp (Lq (e:=Ev (Ei FUEL)) rfl rfl BP) E3)) (λR x k=>ziv F267 (Ei FUEL) Ha R x k)
abbrev Z7:=(R:Type)->(List Tq3)->Int->(Int->Bool->Option R)->Option R
def zeo (F:Z7):Ent:=eV 232 [(.sl Kq3),(.int .i64)] [(.int .i64),.bool] F
def e232 (Ha:J9) (R:Type):Env R:=⟨TT,EQT,0,11,E2 [],Hx [I3 Ha] [] R,Et [] R,[],Ep [],[],λ_ _ _ _=>none⟩
def p232 (Ha:J9):Z7:=λR a0 a1 k=>
Ha R a0 a1 λy1 y2=>
k y1 y2
theorem q232 (Ha:J9):EQ (zeo (p232 Ha)) (e232 Ha) Tryz.f232 [(.tmp 4,3,false),(.tmp 5,4,false)]:=λ_ _ _=>by kernel_rfl
def F232:Z7:=p232 Ha
theorem zt6 (R:Type):D7 Tryz.prog (e232 Ha R):=⟨tabOK,eqOK,F0 (Iw zbz H5) Dl,E7,Du,noYl⟩
theorem ztd:OKP (zeo F232):=ST.ok3 (q232 Ha) zt6 Tryz.func232 (λ_=>rfl) (λ_=>rfl) (λ_=>rfl) [] trivial
abbrev FW:Type 1:=(R:Type)->(List Tq3)->((List Tq3)->Option R)->Option R
def zmv (F:FW):Ent:=⟨234,[(false,(.sl Kq3))],[(true,Kq3)],λR x k=>F R x.1 (λy1=>k (y1,()) ())⟩
def e234:Env (RT [(true,Kq3)]):=⟨TT,EQT,0,8,E2 [(2,0),(3,0)],λ_ _ _=>none,λ_ _ _=>none,[],Ep [],[],λ_ _ _ _=>none⟩
def F234:FW:=λR a0 k=>match decide (List.length ([]:(List Tq3))+a0.length<=1759218604441) with | true=>k a0 | false=>none
theorem ztc:(zmv F234).OK Tryz.prog:=
 Ls (e:=Kq3) e234 ⟨tabOK,eqOK,(λf b K r h=>by cases h),E7,Du,noYl⟩ mixed Tryz.func234 (body:=Ds Tryz.f234) (by kernel_rfl) (by kernel_rfl) (by kernel_rfl) (res:=[(.tmp 2,33,true)]) (by kernel_rfl) rfl (by decide) (by kernel_rfl) (lim:=1759218604441) (by kernel_rfl) (λl=>by kernel_rfl)
def zfs:Go.Shelf.Ren:=⟨λn=>match n with | 22=>233 | 29=>269 | _=>270,λn=>match n with | 3=>3 | 4=>4 | 9=>159 | 24=>33 | _=>0,λn=>n⟩
theorem zla:InsL Tryz.prog zfs Tryz.f233:=⟨mixed,Tryz.func233,⟨Tryz.f233.name,Tryz.f233.targs,Tryz.f233.params,Tryz.f233.resultTypes,Tryz.f233.file,Tryz.f233.tmpNames,by kernel_rfl⟩,Tryz.underlying3,Tryz.underlying4,Tryz.underlying33⟩
theorem zy3:Wj Tryz.prog 233 Kq3 1759218604441:=
 zt1 (ρ:=zfs) tabOK zla (by kernel_rfl) (by decide) (by kernel_rfl) (by kernel_rfl) (dd:=(Kj TT 159).get (by kernel_rfl)) (by kernel_rfl) (fo:=Tryz.f269) Tryz.func269 (by kernel_rfl) (by kernel_rfl) (by kernel_rfl) (by kernel_rfl) (by kernel_rfl) (by decide)
abbrev XK:=(R:Type)->(List Tq3)->Int->LI->((List Tq3)->Int->Option R)->Option R
def znb (F:XK):Ent:=eV 183 [(.sl Kq3),(.int .i64),(.arr 32 (.int .u8))] [(.sl Kq3),(.int .i64)] F
def e183 (F231:Tt) (F232:Z7) (F234:FW) (R:Type):Env R:=⟨TT,EQT,0,32,E2 [(6,7)],En [TM F231,zeo F232,zmv F234] R,Et [] R,[(233,Kq3,1759218604441)],Ep [],[],λ_ _ _ _=>none⟩
def p183 (F231:Tt) (F232:Z7) (F234:FW):XK:=λR a0 a1 a2 k=>
(match decide (a1<0) with
|true=>k ([]:(List Tq3)) (1:Int)
|false=>F231 R a0 λy2=>
(match (!y2) with
|true=>k ([]:(List Tq3)) (1:Int)
|false=>F232 R a0 a1 λy3 y4=>
(match y4 with
|true=>k ([]:(List Tq3)) (6:Int)
|false=>F234 R a0 λy5=>
let v6:=([(a1,a2,false,(replicate 32 (0:Int)),())]:(List Tq3));(match (decide (0<=y3/\y3<=(y5.length:Int)/\y5.length+v6.length<=1759218604441)) with
|true=>k (List.take y3.toNat y5++v6++List.drop y3.toNat y5) (0:Int)
|false=>none))))
theorem q183 (F231:Tt) (F232:Z7) (F234:FW):EQ (znb (p183 F231 F232 F234)) (e183 F231 F232 F234) Tryz.f183 [(.tmp 6,33,false),(.tmp 7,40,false)]:=λ_ _ _=>by kernel_rfl
def F183:XK:=p183 F231 F232 F234
theorem zua (R:Type):D7 Tryz.prog (e183 F231 F232 F234 R):=⟨tabOK,eqOK,Dz (Dk zjy (Dk ztd (Dk ztc Dl))),zf3 zy3,Du,noYl⟩
theorem zzg:OKP (znb F183):=ST.ok3 (q183 F231 F232 F234) zua Tryz.func183 (λ_=>rfl) (λ_=>rfl) (λ_=>rfl) [] trivial
abbrev GD:=(R:Type)->Tq24->(List Tq3)->Int->(Tq24->Int->Option R)->Option R
def zew (F:GD):Ent:=eV 184 [Kq24,(.sl Kq3),(.int .i64)] [Kq24,(.int .i64)] F
def p184 (F235:FV):GD:=λR a0 a1 a2 k=>
(match a2 !=0 with
|true=>k ((0:Int),(replicate 32 (0:Int)),(replicate 32 (0:Int)),([]:(List Tq3)),()) a2
|false=>F235 R a1 λy2=>
k (a0.1,a0.2.1,y2,a1,a0.2.2.2.2) (0:Int))
theorem q184 (F235:FV):EQ (zew (p184 F235)) (sE 0 18 [] [zen F235] []) Tryz.f184 [(.cell 6 35,35,false),(.tmp 7,40,false)]:=λ_ _ _=>by kernel_rfl
def F184:GD:=p184 F235
theorem ztn:OKP (zew F184):=ST.ok0 (q184 F235) (Dk ztb Dl) Tryz.func184
abbrev MV:=(R:Type)->Tq24->Int->Int->LI->(Tq24->Int->Option R)->Option R
def znu (F:MV):Ent:=eV 131 [Kq24,(.int .i64),(.int .i64),(.arr 32 (.int .u8))] [Kq24,(.int .i64)] F
def p131 (F182:GE) (F183:XK) (F184:GD):MV:=λR a0 a1 a2 a3 k=>
F182 R a0 a1 (1:Int) λy1=>
(match y1 !=0 with
|true=>k ((0:Int),(replicate 32 (0:Int)),(replicate 32 (0:Int)),([]:(List Tq3)),()) y1
|false=>F183 R a0.2.2.2.1 a2 a3 λy3 y4=>
F184 R a0 y3 y4 λy5 y6=>
k y5 y6)
theorem q131 (F182:GE) (F183:XK) (F184:GD):EQ (znu (p131 F182 F183 F184)) (sE 0 34 [] [zex F182,znb F183,zew F184] []) Tryz.f131 [(.cell 8 35,35,false),(.tmp 9,40,false)]:=λ_ _ _=>by kernel_rfl
def F131:MV:=p131 F182 F183 F184
theorem zzv:OKP (znu F131):=ST.ok0 (q131 F182 F183 F184) (Dk zto (Dk zzg (Dk ztn Dl))) Tryz.func131
abbrev Kg:Type 1:=(R:Type)->Tq31->Tq11->(Int->Tq31->Option R)->Option R
def I9 (F:Kg):EntF:=⟨130,131,[(true,Kq31),(false,Kq11)],[(false,(.int .i64))],λR x k=>F R x.1 x.2.1 (λy1 p1=>k (y1,()) (p1,()))⟩
def X3:List (ResultVar×TypeId×Bool):=[(.tmp 6,40,false)]
def DP (F131:MV) (F180:Ti) (F181:Wv) (R:Type):Env R:=⟨TT,EQT,1,45,E2 [],En [znu F131,TS F180,zey F181] R,Et [] R,[],Ep [],[],λ_ _ _ _=>none⟩
def BF (F131:MV) (F180:Ti) (F181:Wv):Kg:=λR a0 a1 k=>
F180 R a0 a1.2.1 λy1 p2=>
(match y1 !=0 with
|true=>k y1 p2
|false=>F181 R p2.1.1 p2.1.2.1 λy4=>
F131 R p2.1.2.2.2.1 y4 a1.2.1 a1.2.2.2.1 λy5 y6=>
k y6 ((p2.1.1,p2.1.2.1,p2.1.2.2.1,y5,p2.1.2.2.2.2),p2.2))
theorem zi1 (F131:MV) (F180:Ti) (F181:Wv) (F:Kg) (R:Type) (x:AT (I9 F).ins) (k:RT (I9 F).outs->PT (I9 F).ins->Option R):
 xfun (DP F131 F180 F181 R) (Ds Tryz.f130) X3 (avs (I9 F).ins x++[AV.fn 131]) (finK (I9 F).outs (I9 F).ins k)=BF F131 F180 F181 R x.1 x.2.1 (λy1 p1=>k (y1,()) (p1,())):=by kernel_rfl
def Hg:Kg:=BF F131 F180 F181
theorem TE (R:Type):D7 Tryz.prog (DP F131 F180 F181 R):=⟨tabOK,eqOK,Dz (Dk zzv (Dk zj4 (Dk ztp Dl))),E7,Du,noYl⟩
theorem zb8:(I9 Hg).OK Tryz.prog:=
 Mo (Ef:=λR=>DP F131 F180 F181 R) (λR=>TE R) mixed Tryz.func130 (body:=Ds Tryz.f130) (by kernel_rfl) (by kernel_rfl) (np:=1) (nt:=45) (λ_=>rfl) (λ_=>rfl) (by kernel_rfl) (res:=X3) (by kernel_rfl) (λ_=>rfl) (λ_=>Bj rfl) (by
  intro R;rw [show Dy (Ds Tryz.f130)=[] from by kernel_rfl];exact E3) (λR x k=>zi1 F131 F180 F181 Hg R x k)
abbrev MW:=(R:Type)->Tq31->Tq11->(Int->Tq31->Option R)->Option R
def znv (F:MW):Ent:=eM 129 [(true,Kq31),(false,Kq11)] [(false,(.int .i64))] F
def e129 (Hg:Kg) (R:Type):Env R:=⟨TT,EQT,1,8,E2 [],Hx [I9 Hg] [] R,Et [] R,[],Ep [],[],λ_ _ _ _=>none⟩
def p129 (Hg:Kg):MW:=λR a0 a1 k=>
Hg R a0 a1 λy1 p2=>
k y1 p2
theorem q129 (Hg:Kg):EQ (znv (p129 Hg)) (e129 Hg) Tryz.f129 [(.tmp 4,40,false)]:=λ_ _ _=>by kernel_rfl
def F129:MW:=p129 Hg
theorem zud (R:Type):D7 Tryz.prog (e129 Hg R):=⟨tabOK,eqOK,F0 (Iw zb8 H5) Dl,E7,Du,noYl⟩
theorem zzw:OKP (znv F129):=ST.ok3 (q129 Hg) zud Tryz.func129 (λ_=>rfl) (λ_=>rfl) (λ_=>rfl) [] trivial
abbrev XJ:=(R:Type)->(List Tq3)->Int->LI->((List Tq3)->Int->Option R)->Option R
def zna (F:XJ):Ent:=eV 185 [(.sl Kq3),(.int .i64),(.arr 32 (.int .u8))] [(.sl Kq3),(.int .i64)] F
def p185 (F231:Tt) (F232:Z7) (F234:FW) (F236:FU):XJ:=λR a0 a1 a2 k=>
F231 R a0 λy1=>
(match (!y1) with
|true=>k ([]:(List Tq3)) (1:Int)
|false=>F232 R a0 a1 λy2 y3=>
(match (!y3) with
|true=>k ([]:(List Tq3)) (5:Int)
|false=>(match bnd y2 a0.length with
|true=>(match (a0.getD y2.toNat (0,(replicate 32 0),false,(replicate 32 0),())).2.2.1 with
|true=>k ([]:(List Tq3)) (6:Int)
|false=>F236 R a2 λy5=>
(match bnd y2 a0.length with
|true=>(match !(Kd.eqv (.arr 32 (.int .u8)) y5 ((a0.getD y2.toNat (0,(replicate 32 0),false,(replicate 32 0),())).2.1)) with
|true=>k ([]:(List Tq3)) (13:Int)
|false=>F234 R a0 λy8=>
(match bnd y2 y8.length with
|true=>let v9:=y8.set y2.toNat ((y8.getD y2.toNat (0,(replicate 32 0),false,(replicate 32 0),())).1,(y8.getD y2.toNat (0,(replicate 32 0),false,(replicate 32 0),())).2.1,true,(y8.getD y2.toNat (0,(replicate 32 0),false,(replicate 32 0),())).2.2.2);(match bnd y2 v9.length with
|true=>k (v9.set y2.toNat ((v9.getD y2.toNat (0,(replicate 32 0),false,(replicate 32 0),())).1,(v9.getD y2.toNat (0,(replicate 32 0),false,(replicate 32 0),())).2.1,(v9.getD y2.toNat (0,(replicate 32 0),false,(replicate 32 0),())).2.2.1,a2,(v9.getD y2.toNat (0,(replicate 32 0),false,(replicate 32 0),())).2.2.2.2)) (0:Int)
|false=>none)
|false=>none))
|false=>none))
|false=>none)))
theorem q185 (F231:Tt) (F232:Z7) (F234:FW) (F236:FU):EQ (zna (p185 F231 F232 F234 F236)) (sE 0 50 [] [TM F231,zeo F232,zmv F234,zem F236] []) Tryz.f185 [(.tmp 6,33,false),(.tmp 7,40,false)]:=λ_ _ _=>by kernel_rfl
def F185:XJ:=p185 F231 F232 F234 F236
theorem zzf:OKP (zna F185):=ST.ok0 (q185 F231 F232 F234 F236) (Dk zjy (Dk ztd (Dk ztc (Dk zta Dl)))) Tryz.func185
abbrev MS:=(R:Type)->Tq24->Int->Int->LI->(Tq24->Int->Option R)->Option R
def zns (F:MS):Ent:=eV 133 [Kq24,(.int .i64),(.int .i64),(.arr 32 (.int .u8))] [Kq24,(.int .i64)] F
def p133 (F182:GE) (F184:GD) (F185:XJ):MS:=λR a0 a1 a2 a3 k=>
F182 R a0 a1 (2:Int) λy1=>
(match y1 !=0 with
|true=>k ((0:Int),(replicate 32 (0:Int)),(replicate 32 (0:Int)),([]:(List Tq3)),()) y1
|false=>F185 R a0.2.2.2.1 a2 a3 λy3 y4=>
F184 R a0 y3 y4 λy5 y6=>
k y5 y6)
theorem q133 (F182:GE) (F184:GD) (F185:XJ):EQ (zns (p133 F182 F184 F185)) (sE 0 34 [] [zex F182,zew F184,zna F185] []) Tryz.f133 [(.cell 8 35,35,false),(.tmp 9,40,false)]:=λ_ _ _=>by kernel_rfl
def F133:MS:=p133 F182 F184 F185
theorem zzt:OKP (zns F133):=ST.ok0 (q133 F182 F184 F185) (Dk zto (Dk ztn (Dk zzf Dl))) Tryz.func133
abbrev Kf:Type 1:=(R:Type)->Tq31->Tq11->(Int->Tq31->Option R)->Option R
def I8 (F:Kf):EntF:=⟨130,133,[(true,Kq31),(false,Kq11)],[(false,(.int .i64))],λR x k=>F R x.1 x.2.1 (λy1 p1=>k (y1,()) (p1,()))⟩
def X2:List (ResultVar×TypeId×Bool):=[(.tmp 6,40,false)]
def DO (F133:MS) (F180:Ti) (F181:Wv) (R:Type):Env R:=⟨TT,EQT,1,45,E2 [],En [zns F133,TS F180,zey F181] R,Et [] R,[],Ep [],[],λ_ _ _ _=>none⟩
def BE (F133:MS) (F180:Ti) (F181:Wv):Kf:=λR a0 a1 k=>
F180 R a0 a1.2.1 λy1 p2=>
(match y1 !=0 with
|true=>k y1 p2
|false=>F181 R p2.1.1 p2.1.2.1 λy4=>
F133 R p2.1.2.2.2.1 y4 a1.2.1 a1.2.2.2.1 λy5 y6=>
k y6 ((p2.1.1,p2.1.2.1,p2.1.2.2.1,y5,p2.1.2.2.2.2),p2.2))
theorem zi0 (F133:MS) (F180:Ti) (F181:Wv) (F:Kf) (R:Type) (x:AT (I8 F).ins) (k:RT (I8 F).outs->PT (I8 F).ins->Option R):
 xfun (DO F133 F180 F181 R) (Ds Tryz.f130) X2 (avs (I8 F).ins x++[AV.fn 133]) (finK (I8 F).outs (I8 F).ins k)=BE F133 F180 F181 R x.1 x.2.1 (λy1 p1=>k (y1,()) (p1,())):=by kernel_rfl
def Hf:Kf:=BE F133 F180 F181
theorem TD (R:Type):D7 Tryz.prog (DO F133 F180 F181 R):=⟨tabOK,eqOK,Dz (Dk zzt (Dk zj4 (Dk ztp Dl))),E7,Du,noYl⟩
theorem zb7:(I8 Hf).OK Tryz.prog:=
 Mo (Ef:=λR=>DO F133 F180 F181 R) (λR=>TD R) mixed Tryz.func130 (body:=Ds Tryz.f130) (by kernel_rfl) (by kernel_rfl) (np:=1) (nt:=45) (λ_=>rfl) (λ_=>rfl) (by kernel_rfl) (res:=X2) (by kernel_rfl) (λ_=>rfl) (λ_=>Bj rfl) (by
  intro R;rw [show Dy (Ds Tryz.f130)=[] from by kernel_rfl];exact E3) (λR x k=>zi0 F133 F180 F181 Hf R x k)
abbrev MU:=(R:Type)->Tq31->Tq11->(Int->Tq31->Option R)->Option R
def znt (F:MU):Ent:=eM 132 [(true,Kq31),(false,Kq11)] [(false,(.int .i64))] F
def e132 (Hf:Kf) (R:Type):Env R:=⟨TT,EQT,1,8,E2 [],Hx [I8 Hf] [] R,Et [] R,[],Ep [],[],λ_ _ _ _=>none⟩
def p132 (Hf:Kf):MU:=λR a0 a1 k=>
Hf R a0 a1 λy1 p2=>
k y1 p2
theorem q132 (Hf:Kf):EQ (znt (p132 Hf)) (e132 Hf) Tryz.f132 [(.tmp 4,40,false)]:=λ_ _ _=>by kernel_rfl
def F132:MU:=p132 Hf
theorem zuc (R:Type):D7 Tryz.prog (e132 Hf R):=⟨tabOK,eqOK,F0 (Iw zb7 H5) Dl,E7,Du,noYl⟩
theorem zzu:OKP (znt F132):=ST.ok3 (q132 Hf) zuc Tryz.func132 (λ_=>rfl) (λ_=>rfl) (λ_=>rfl) [] trivial
abbrev XI:=(R:Type)->Tq21->Int->(Int->Bool->Option R)->Option R
def zm9 (F:XI):Ent:=eV 186 [Kq21,(.int .i64)] [(.int .i64),.bool] F
def p186 (F229:FY):XI:=λR a0 a1 k=>
F229 R a0 a1 λy1=>
(match (!y1) with
|true=>k (0:Int) false
|false=>(match (!(a0.1==0)) with
|true=>let v3:=Int.tmod (i64.wrap (a1+1)) a0.1;k v3 (v3==0)
|false=>none))
theorem q186 (F229:FY):EQ (zm9 (p186 F229)) (sE 0 19 [] [zeq F229] []) Tryz.f186 [(.tmp 4,3,false),(.tmp 5,4,false)]:=λ_ _ _=>by kernel_rfl
def F186:XI:=p186 F229
theorem zze:OKP (zm9 F186):=ST.ok0 (q186 F229) (Dk ztf Dl) Tryz.func186
abbrev FT80:=(R:Type)->LI->Int->LI->(LI->Option R)->Option R
def en80 (F:FT80):Ent:=eV 80 [(.arr 32 (.int .u8)),(.int .u64),(.arr 32 (.int .u8))] [(.arr 32 (.int .u8))] F
def p80 (F115:N9) (F116:Ww):FT80:=λR a0 a1 a2 k=>
F115 R a1 λy1=>
F116 R ([(List.take 32 (List.drop 0 a0)),(List.take 8 (List.drop 0 y1)),(List.take 32 (List.drop 0 a2))]:(List LI)) λy3=>
k y3
theorem q80 (F115:N9) (F116:Ww):EQ (en80 (p80 F115 F116)) (sE 0 15 [] [DK F115,TU F116] []) Tryz.f80 [(.cell 6 24,24,false)]:=λ_ _ _=>by kernel_rfl
def F80:FT80:=p80 F115 F116
theorem ok80:OKP (en80 F80):=ST.ok0 (q80 F115 F116) (Dk QM (Dk zj8 Dl)) Tryz.func80
abbrev WR:=(R:Type)->(List Tq3)->(LI->Option R)->Option R
def zmg (F:WR):Ent:=eV 271 [(.sl Kq3)] [(.sl (.int .i64))] F
abbrev ZQ (Z:Type):=(List Tq3)->Int->Int->LI->Z
abbrev zhj (R:Type):=(LI->Option R)->Option R
abbrev Pf:=(R:Type)->ZQ (zhj R)
def CF (L:Pf):LEnt:=lM 2 [.fix 2 (.own 0 0),.val 5 (.sl Kq3),.val 6 (.int .i64),.val 7 (.int .i64),.row 0 (.int .i64) false] 1 [(.exit 0,[.fix 2 (.own 0 0),.row 0 (.int .i64) false])] L
def e271 (L2:Pf):=sE 0 21 [(0,0)] [] [CF L2]
def PI (R:Type):ZQ (ZQ (Option R)->zhj R):=λx1 x2 x3 x4 kc k0=>
(match decide (x3<x2) with
|true=>(match bnd x3 x1.length with
|true=>let v6:=x1.getD x3.toNat (0,(replicate 32 0),false,(replicate 32 0),());(match !v6.2.2.1 with
|true=>let v8:=([v6.1]:LI);(match (decide (x4.length+v8.length<=17592186044416)) with
|true=>kc x1 x2 (i64.wrap (x3+1)) (x4++v8)
|false=>none)
|false=>kc x1 x2 (i64.wrap (x3+1)) x4)
|false=>none)
|false=>k0 x4)
theorem zrs (L2:Pf):LEQ (CF L2) (e271 L2) Tryz.f271 PI:=λ_ _ _ _=>by kernel_rfl
def Sz:Nat->Pf
 | 0=>λ_ _ _ _ _ _=>none
 | n+1=>λR x1 x2 x3 x4 k0=>PI R x1 x2 x3 x4 (λx1 x2 x3 x4=>Sz n R x1 x2 x3 x4 k0) k0
def p271 (L2:Pf):WR:=λR a0 k=>
L2 R a0 (a0.length:Int) (0:Int) ([]:LI) (λx2=>
k x2)
theorem q271 (L2:Pf):EQ (zmg (p271 L2)) (e271 L2) Tryz.f271 [(.tmp 2,36,false)]:=λ_ _ _=>by kernel_rfl
def F271:WR:=p271 (Sz FUEL)
theorem zcs:LKP (CF (Sz FUEL)) 0 21 2 Tryz.f271:=ST.lok (zrs (Sz FUEL)) Dl [] trivial
theorem zyp:OKP (zmg F271):=ST.ok1 (q271 (Sz FUEL)) Dl Tryz.func271 [2] ⟨⟨_,rfl,zcs⟩,trivial⟩
abbrev WY:=(R:Type)->Tq24->(Tq24->Tq37->LI->Int->Option R)->Option R
def zmu (F:WY):Ent:=eV 237 [Kq24] [Kq24,Kq37,(.sl (.int .i64)),(.int .i64)] F
def p237 (F80:FT80) (F230:FX) (F271:WR):WY:=λR a0 k=>
F230 R a0 λy1=>
(match (!y1) with
|true=>k ((0:Int),(replicate 32 (0:Int)),(replicate 32 (0:Int)),([]:(List Tq3)),()) ((0:Int),(replicate 32 (0:Int)),(replicate 32 (0:Int)),(replicate 32 (0:Int)),()) ([]:LI) (1:Int)
|false=>(match a0.1==18446744073709551615 with
|true=>k ((0:Int),(replicate 32 (0:Int)),(replicate 32 (0:Int)),([]:(List Tq3)),()) ((0:Int),(replicate 32 (0:Int)),(replicate 32 (0:Int)),(replicate 32 (0:Int)),()) ([]:LI) (3:Int)
|false=>F80 R a0.2.1 a0.1 a0.2.2.1 λy3=>
F271 R a0.2.2.2.1 λy5=>
k ((u64.wrap (a0.1+1)),y3,(replicate 32 (0:Int)),([]:(List Tq3)),()) (a0.1,a0.2.1,a0.2.2.1,y3,()) y5 (0:Int)))
theorem q237 (F80:FT80) (F230:FX) (F271:WR):EQ (zmu (p237 F80 F230 F271)) (sE 0 43 [] [en80 F80,zep F230,zmg F271] []) Tryz.f237 [(.cell 2 35,35,false),(.cell 3 100,100,false),(.tmp 4,36,false),(.tmp 5,40,false)]:=λ_ _ _=>by kernel_rfl
def F237:WY:=p237 F80 F230 F271
theorem zy2:OKP (zmu F237):=ST.ok0 (q237 F80 F230 F271) (Dk ok80 (Dk zte (Dk zyp Dl))) Tryz.func237
abbrev WX:=(R:Type)->(List Tq5)->((List Tq5)->Option R)->Option R
def zmt (F:WX):Ent:=eV 238 [(.sl Kq5)] [(.sl Kq5)] F
abbrev ZX (Z:Type):=Int->Int->(List Tq5)->Z
abbrev zhq (R:Type):=((List Tq5)->Option R)->Option R
abbrev Pk:=(R:Type)->ZX (zhq R)
def CM (L:Pk):LEnt:=lM 3 [.fix 3 (.own 0 0),.val 8 (.int .i64),.val 9 (.int .i64),.row 0 Kq5 false] 1 [(.exit 0,[.fix 3 (.own 0 0),.row 0 Kq5 false])] L
def e238 (F264:Z6) (L3:Pk):=sE 0 23 [] [zmk F264] [CM L3]
def PP (R:Type):ZX (ZX (Option R)->zhq R):=λx1 x2 x3 kc k0=>
(match decide (x2<x1) with
|true=>(match bnd x2 x3.length with
|true=>(match bnd x2 x3.length with
|true=>kc x1 (i64.wrap (x2+1)) (x3.set x2.toNat ((x3.getD x2.toNat ((replicate 32 0),0,0,())).1,((x3.getD x2.toNat ((replicate 32 0),0,0,())).2.2.1),(x3.getD x2.toNat ((replicate 32 0),0,0,())).2.2))
|false=>none)
|false=>none)
|false=>k0 x3)
theorem zrz (F264:Z6) (L3:Pk):LEQ (CM L3) (e238 F264 L3) Tryz.f238 PP:=λ_ _ _ _=>by kernel_rfl
def S7:Nat->Pk
 | 0=>λ_ _ _ _ _=>none
 | n+1=>λR x1 x2 x3 k0=>PP R x1 x2 x3 (λx1 x2 x3=>S7 n R x1 x2 x3 k0) k0
def p238 (F264:Z6) (L3:Pk):WX:=λR a0 k=>
F264 R a0 λy1=>
L3 R (y1.length:Int) (0:Int) y1 (λx3=>
k x3)
theorem q238 (F264:Z6) (L3:Pk):EQ (zmt (p238 F264 L3)) (e238 F264 L3) Tryz.f238 [(.tmp 2,31,false)]:=λ_ _ _=>by kernel_rfl
def F238:WX:=p238 F264 (S7 FUEL)
theorem zcz:LKP (CM (S7 FUEL)) 0 23 3 Tryz.f238:=ST.lok (zrz F264 (S7 FUEL)) (Dk zjv Dl) [] trivial
theorem zy1:OKP (zmt F238):=ST.ok1 (q238 F264 (S7 FUEL)) (Dk zjv Dl) Tryz.func238 [3] ⟨⟨_,rfl,zcz⟩,trivial⟩
abbrev zfh:Type 1:=(R:Type)->LI->(LI->Option R)->Option R
def zul (F:zfh):Ent:=⟨239,[(false,(.sl (.int .i64)))],[(true,(.int .i64))],λR x k=>F R x.1 (λy1=>k (y1,()) ())⟩
def e239:Env (RT [(true,(.int .i64))]):=⟨TT,EQT,0,8,E2 [(2,0),(3,0)],λ_ _ _=>none,λ_ _ _=>none,[],Ep [],[],λ_ _ _ _=>none⟩
def F239:zfh:=λR a0 k=>match decide (List.length ([]:LI)+a0.length<=17592186044416) with | true=>k a0 | false=>none
theorem zy0:(zul F239).OK Tryz.prog:=
 Ls (e:=(.int .i64)) e239 ⟨tabOK,eqOK,(λf b K r h=>by cases h),E7,Du,noYl⟩ mixed Tryz.func239 (body:=Ds Tryz.f239) (by kernel_rfl) (by kernel_rfl) (by kernel_rfl) (res:=[(.tmp 2,36,true)]) (by kernel_rfl) rfl (by decide) (by kernel_rfl) (lim:=17592186044416) (by kernel_rfl) (λl=>by kernel_rfl)
abbrev Th:=(R:Type)->Tq8->Int->(Bool->Option R)->Option R
def TL (F:Th):Ent:=eV 243 [Kq8,(.int .i64)] [.bool] F
def p243:Th:=λR a0 a1 k=>
(match decide (a1>=0) with
|true=>(match decide (a1<1024) with
|true=>(match decide (a0.2.1>0) with
|true=>k (decide (a0.2.1<=64))
|false=>k false)
|false=>k false)
|false=>k false)
theorem q243:EQ (TL p243) (sE 0 21 [] [] []) Tryz.f243 [(.tmp 4,4,false)]:=λ_ _ _=>by kernel_rfl
def F243:Th:=p243
theorem zb0:OKP (TL F243):=ST.ok0 q243 Dl Tryz.func243
abbrev N6:Type 1:=(R:Type)->LI->(LI->Option R)->Option R
def zei (F:N6):Ent:=⟨289,[(false,(.sl (.int .u64)))],[(true,(.int .u64))],λR x k=>F R x.1 (λy1=>k (y1,()) ())⟩
def e289:Env (RT [(true,(.int .u64))]):=⟨TT,EQT,0,8,E2 [(2,0),(3,0)],λ_ _ _=>none,λ_ _ _=>none,[],Ep [],[],λ_ _ _ _=>none⟩
def F289:N6:=λR a0 k=>match decide (List.length ([]:LI)+a0.length<=17592186044416) with | true=>k a0 | false=>none
theorem KW:(zei F289).OK Tryz.prog:=
 Ls (e:=(.int .u64)) e289 ⟨tabOK,eqOK,(λf b K r h=>by cases h),E7,Du,noYl⟩ mixed Tryz.func289 (body:=Ds Tryz.f289) (by kernel_rfl) (by kernel_rfl) (by kernel_rfl) (res:=[(.tmp 2,182,true)]) (by kernel_rfl) rfl (by decide) (by kernel_rfl) (lim:=17592186044416) (by kernel_rfl) (λl=>by kernel_rfl)
abbrev J8:=(R:Type)->Int->(Int->Option R)->Option R
def LU (F:J8):Ent:=eV 290 [(.int .i64)] [(.int .i64)] F
def p290:J8:=λR a0 k=>
k (iand .i64 a0 (i64.wrap (0 - a0)))
theorem q290:EQ (LU p290) (sE 0 7 [] [] []) Tryz.f290 [(.tmp 2,3,false)]:=λ_ _ _=>by kernel_rfl
def F290:J8:=p290
theorem Yc:OKP (LU F290):=ST.ok0 q290 Dl Tryz.func290
abbrev Wo:=(R:Type)->LI->((LI×Unit)->Int->Option R)->Option R
def zej (F:Wo):Ent:=eV 272 [(.sl (.int .u64))] [(.pair (.sl (.int .u64)) .unit),(.int .i64)] F
abbrev ZP (Z:Type):=Int->(LI×Unit)->LI->Z
abbrev zhi (R:Type):=((LI×Unit)->LI->Option R)->Option R
abbrev Pe:=(R:Type)->ZP (zhi R)
def CE (L:Pe):LEnt:=lM 8 [.fix 2 (.ptr 0 [] (.pair (.sl (.int .u64)) .unit)),.fix 6 (.own 1 0),.val 7 (.int .i64),.var 0 (.pair (.sl (.int .u64)) .unit) false,.row 1 (.int .u64) false] 2 [(.exit 0,[.fix 2 (.ptr 0 [] (.pair (.sl (.int .u64)) .unit)),.fix 6 (.own 1 0),.var 0 (.pair (.sl (.int .u64)) .unit) false,.row 1 (.int .u64) false])] L
def e272 (F223:M3) (F289:N6) (F290:J8) (L8:Pe):=sE 0 51 [] [LV F223,zei F289,LU F290] [CE L8]
def PH (F290:J8) (R:Type):ZP (ZP (Option R)->zhi R):=λx1 x2 x3 kc k0=>
(match decide (x1<=(x3.length:Int)) with
|true=>F290 R x1 λy6=>
let v7:=i64.wrap (x1+y6);(match decide (v7<=(x3.length:Int)) with
|true=>let v10:=i64.wrap (v7 - 1);(match bnd v10 x3.length with
|true=>let v12:=i64.wrap (x1 - 1);(match bnd v12 x3.length with
|true=>(match bnd v10 x3.length with
|true=>kc (i64.wrap (x1+1)) x2 (x3.set v10.toNat (u64.wrap ((x3.getD v10.toNat 0)+(x3.getD v12.toNat 0))))
|false=>none)
|false=>none)
|false=>none)
|false=>kc (i64.wrap (x1+1)) x2 x3)
|false=>k0 x2 x3)
theorem zrr (F223:M3) (F289:N6) (F290:J8) (L8:Pe):LEQ (CE L8) (e272 F223 F289 F290 L8) Tryz.f272 (PH F290):=λ_ _ _ _=>by kernel_rfl
def Sy:Nat->Pe
 | 0=>λ_ _ _ _ _=>none
 | n+1=>λR x1 x2 x3 k0=>PH F290 R x1 x2 x3 (λx1 x2 x3=>Sy n R x1 x2 x3 k0) k0
def p272 (F223:M3) (F289:N6) (L8:Pe):Wo:=λR a0 k=>
(match decide ((a0.length:Int)>1048576) with
|true=>k (([]:LI),()) (14:Int)
|false=>F223 R a0 λy3 y4=>
(match (!y4) with
|true=>k (([]:LI),()) (11:Int)
|false=>F289 R a0 λy5=>
L8 R (1:Int) (([]:LI),()) y5 (λx6 x7=>
k (x7,()) (0:Int))))
theorem q272 (F223:M3) (F289:N6) (F290:J8) (L8:Pe):EQ (zej (p272 F223 F289 L8)) (e272 F223 F289 F290 L8) Tryz.f272 [(.cell 2 221,221,false),(.tmp 3,40,false)]:=λ_ _ _=>by kernel_rfl
def F272:Wo:=p272 F223 F289 (Sy FUEL)
theorem zcr:LKP (CE (Sy FUEL)) 0 51 8 Tryz.f272:=ST.lok (zrr F223 F289 F290 (Sy FUEL)) (Dk QK (Dk KW (Dk Yc Dl))) [] trivial
theorem zju:OKP (zej F272):=ST.ok1 (q272 F223 F289 F290 (Sy FUEL)) (Dk QK (Dk KW (Dk Yc Dl))) Tryz.func272 [8] ⟨⟨_,rfl,zcr⟩,trivial⟩
abbrev WN:=(R:Type)->Int->Int->(Int->Option R)->Option R
def zmb (F:WN):Ent:=eV 277 [(.int .u32),(.int .u32)] [(.int .u64)] F
def p277:WN:=λR a0 a1 k=>
k (ior .u64 (ishl .u64 (u64.wrap a0) (32:Int)) (u64.wrap a1))
theorem q277:EQ (zmb p277) (sE 0 11 [] [] []) Tryz.f277 [(.tmp 4,32,false)]:=λ_ _ _=>by kernel_rfl
def F277:WN:=p277
theorem zyl:OKP (zmb F277):=ST.ok0 q277 Dl Tryz.func277
abbrev WO:=(R:Type)->LI->Int->(Tq40->Option R)->Option R
def zmc (F:WO):Ent:=eV 276 [(.arr 32 (.int .u8)),(.int .u64)] [Kq40] F
def p276:WO:=λR a0 a1 k=>
k ((2:Int),([]:LI),(0:Int),a0,a1,(0:Int),())
theorem q276:EQ (zmc p276) (sE 0 8 [] [] []) Tryz.f276 [(.cell 4 225,225,false)]:=λ_ _ _=>by kernel_rfl
def F276:WO:=p276
theorem zym:OKP (zmc F276):=ST.ok0 q276 Dl Tryz.func276
abbrev Wq:=(R:Type)->Tq8->Int->Int->(Tq40->Option R)->Option R
def TK (F:Wq):Ent:=eV 245 [Kq8,(.int .u32),(.int .i64)] [Kq40] F
def p245 (F276:WO) (F277:WN):Wq:=λR a0 a1 a2 k=>
F277 R a1 (u32.wrap a2) λy2=>
F276 R a0.1 y2 λy3=>
k y3
theorem q245 (F276:WO) (F277:WN):EQ (TK (p245 F276 F277)) (sE 0 14 [] [zmc F276,zmb F277] []) Tryz.f245 [(.cell 6 225,225,false)]:=λ_ _ _=>by kernel_rfl
def F245:Wq:=p245 F276 F277
theorem zjx:OKP (TK F245):=ST.ok0 (q245 F276 F277) (Dk zym (Dk zyl Dl)) Tryz.func245
abbrev Pz:=(R:Type)->(LI×Unit)->(Int->Option R)->Option R
def TH (F:Pz):Ent:=eV 325 [(.pair (.sl (.int .u64)) .unit)] [(.int .i64)] F
def p325:Pz:=λR a0 k=>
k (a0.1.length:Int)
theorem q325:EQ (TH p325) (sE 0 6 [] [] []) Tryz.f325 [(.tmp 2,3,false)]:=λ_ _ _=>by kernel_rfl
def F325:Pz:=p325
theorem QH:OKP (TH F325):=ST.ok0 q325 Dl Tryz.func325
abbrev EX:=(R:Type)->(LI×Unit)->Int->(Int->Option R)->Option R
def zeb (F:EX):Ent:=eV 324 [(.pair (.sl (.int .u64)) .unit),(.int .i64)] [(.int .u64)] F
abbrev ZF (Z:Type):=Int->Int->(LI×Unit)->Z
abbrev zg8 (R:Type):=(Int->Option R)->Option R
abbrev O7:=(R:Type)->ZF (zg8 R)
def BU (L:O7):LEnt:=lM 1 [.val 1 (.int .i64),.fix 2 (.ptr 0 [] (.pair (.sl (.int .u64)) .unit)),.val 4 (.int .u64),.var 0 (.pair (.sl (.int .u64)) .unit) false] 1 [(.exit 0,[.val 4 (.int .u64)])] L
def e324 (F290:J8) (L1:O7):=sE 0 20 [] [LU F290] [BU L1]
def OZ (F290:J8) (R:Type):ZF (ZF (Option R)->zg8 R):=λx1 x2 x3 kc k0=>
(match decide (x1>0) with
|true=>let v5:=i64.wrap (x1 - 1);(match bnd v5 x3.1.length with
|true=>F290 R x1 λy8=>
kc (i64.wrap (x1 - y8)) (u64.wrap (x2+(x3.1.getD v5.toNat 0))) x3
|false=>none)
|false=>k0 x2)
theorem zrh (F290:J8) (L1:O7):LEQ (BU L1) (e324 F290 L1) Tryz.f324 (OZ F290):=λ_ _ _ _=>by kernel_rfl
def Ss:Nat->O7
 | 0=>λ_ _ _ _ _=>none
 | n+1=>λR x1 x2 x3 k0=>OZ F290 R x1 x2 x3 (λx1 x2 x3=>Ss n R x1 x2 x3 k0) k0
def p324 (L1:O7):EX:=λR a0 a1 k=>
L1 R a1 (0:Int) a0 (λx1=>
k x1)
theorem q324 (F290:J8) (L1:O7):EQ (zeb (p324 L1)) (e324 F290 L1) Tryz.f324 [(.tmp 4,32,false)]:=λ_ _ _=>by kernel_rfl
def F324:EX:=p324 (Ss FUEL)
theorem zch:LKP (BU (Ss FUEL)) 0 20 1 Tryz.f324:=ST.lok (zrh F290 (Ss FUEL)) (Dk Yc Dl) [] trivial
theorem zsp:OKP (zeb F324):=ST.ok1 (q324 F290 (Ss FUEL)) (Dk Yc Dl) Tryz.func324 [1] ⟨⟨_,rfl,zch⟩,trivial⟩
abbrev N5:=(R:Type)->(LI×Unit)->(Int->Option R)->Option R
def TI (F:N5):Ent:=eV 308 [(.pair (.sl (.int .u64)) .unit)] [(.int .u64)] F
def p308 (F324:EX) (F325:Pz):N5:=λR a0 k=>
F325 R a0 λy1=>
F324 R a0 y1 λy2=>
k y2
theorem q308 (F324:EX) (F325:Pz):EQ (TI (p308 F324 F325)) (sE 0 7 [] [zeb F324,TH F325] []) Tryz.f308 [(.tmp 2,32,false)]:=λ_ _ _=>by kernel_rfl
def F308:N5:=p308 F324 F325
theorem KV:OKP (TI F308):=ST.ok0 (q308 F324 F325) (Dk zsp (Dk QH Dl)) Tryz.func308
abbrev EV:=(R:Type)->Tq40->(Int->Bool->Option R)->Option R
def zea (F:EV):Ent:=eV 331 [Kq40] [(.int .u64),.bool] F
def p331:EV:=λR a0 k=>
(match a0.1==1 with
|true=>k a0.2.2.1 (decide (a0.2.2.1<=(u64.wrap ((u64.wrap (a0.2.1.length:Int))*8))))
|false=>(match a0.1==2 with
|true=>k (4611686018427387904:Int) true
|false=>k (0:Int) false))
theorem q331:EQ (zea p331) (sE 0 20 [] [] []) Tryz.f331 [(.tmp 2,32,false),(.tmp 3,4,false)]:=λ_ _ _=>by kernel_rfl
def F331:EV:=p331
theorem zsm:OKP (zea F331):=ST.ok0 q331 Dl Tryz.func331
abbrev P0:=(R:Type)->Tq40->(Bool->Option R)->Option R
def LS (F:P0):Ent:=eV 318 [Kq40] [.bool] F
def p318 (F331:EV):P0:=λR a0 k=>
F331 R a0 λy1 y2=>
(match y2 with
|true=>k (decide (a0.2.2.2.2.2.1<=y1))
|false=>k false)
theorem q318 (F331:EV):EQ (LS (p318 F331)) (sE 0 17 [] [zea F331] []) Tryz.f318 [(.tmp 2,4,false)]:=λ_ _ _=>by kernel_rfl
def F318:P0:=p318 F331
theorem QI:OKP (LS F318):=ST.ok0 (q318 F331) (Dk zsm Dl) Tryz.func318
abbrev FD:=(R:Type)->Tq40->Int->Int->(Bool->Option R)->Option R
def zlt (F:FD):Ent:=eV 314 [Kq40,(.int .u64),(.int .i64)] [.bool] F
def p314 (F318:P0):FD:=λR a0 a1 a2 k=>
F318 R a0 λy1=>
(match y1 with
|true=>(match decide (a1>0) with
|true=>(match decide (a1<9223372036854775808) with
|true=>(match decide (a2>0) with
|true=>k (decide (a2<=64))
|false=>k false)
|false=>k false)
|false=>k false)
|false=>k false)
theorem q314 (F318:P0):EQ (zlt (p314 F318)) (sE 0 25 [] [LS F318] []) Tryz.f314 [(.tmp 6,4,false)]:=λ_ _ _=>by kernel_rfl
def F314:FD:=p314 F318
theorem zsv:OKP (zlt F314):=ST.ok0 (q314 F318) (Dk QI Dl) Tryz.func314
abbrev FB:=(R:Type)->Int->(Int->Option R)->Option R
def zlr (F:FB):Ent:=eV 316 [(.int .u64)] [(.int .i64)] F
def p316 (F329:WE):FB:=λR a0 k=>
F329 R (u64.wrap ((if (1:Int)>a0 then (1:Int) else a0) - 1)) λy3=>
k y3
theorem q316 (F329:WE):EQ (zlr (p316 F329)) (sE 0 7 [] [zln F329] []) Tryz.f316 [(.tmp 2,3,false)]:=λ_ _ _=>by kernel_rfl
def F316:FB:=p316 F329
theorem zst:OKP (zlr F316):=ST.ok0 (q316 F329) (Dk zya Dl) Tryz.func316
abbrev EW:=(R:Type)->Tq40->(Int->Option R)->Option R
def zlo (F:EW):Ent:=eV 327 [Kq40] [(.int .u64)] F
def p327 (F318:P0) (F331:EV):EW:=λR a0 k=>
F318 R a0 λy1=>
(match (!y1) with
|true=>k (0:Int)
|false=>F331 R a0 λy2 y3=>
k (u64.wrap (y2 - a0.2.2.2.2.2.1)))
theorem q327 (F318:P0) (F331:EV):EQ (zlo (p327 F318 F331)) (sE 0 17 [] [LS F318,zea F331] []) Tryz.f327 [(.tmp 2,32,false)]:=λ_ _ _=>by kernel_rfl
def F327:EW:=p327 F318 F331
theorem zso:OKP (zlo F327):=ST.ok0 (q327 F318 F331) (Dk QI (Dk zsm Dl)) Tryz.func327
abbrev WB:=(R:Type)->LI->Int->Int->(LI->Option R)->Option R
def zlk (F:WB):Ent:=eV 335 [(.arr 32 (.int .u8)),(.int .u64),(.int .u64)] [(.arr 32 (.int .u8))] F
def p335 (F115:N9) (F116:Ww):WB:=λR a0 a1 a2 k=>
F115 R a1 λy1=>
F115 R a2 λy2=>
F116 R ([(List.take 32 (List.drop 0 a0)),(List.take 8 (List.drop 0 y1)),(List.take 8 (List.drop 0 y2))]:(List LI)) λy4=>
k y4
theorem q335 (F115:N9) (F116:Ww):EQ (zlk (p335 F115 F116)) (sE 0 18 [] [DK F115,TU F116] []) Tryz.f335 [(.cell 6 24,24,false)]:=λ_ _ _=>by kernel_rfl
def F335:WB:=p335 F115 F116
theorem zx6:OKP (zlk F335):=ST.ok0 (q335 F115 F116) (Dk QM (Dk zj8 Dl)) Tryz.func335
abbrev zon:=(R:Type)->Tq43->Int->(Int->Tq43->Option R)->Option R
def zuh (F:zon):Ent:=eM 334 [(true,Kq43),(false,(.int .u64))] [(false,(.int .u8))] F
def p334 (F335:WB):zon:=λR a0 a1 k=>
(match a0.1.1==1 with
|true=>(match bnd a1 a0.1.2.1.length with
|true=>k (a0.1.2.1.getD a1.toNat 0) a0
|false=>none)
|false=>let v3:=u64.wrap (Int.tdiv a1 (32:Int));(match !a0.2.2.2.1 with
|true=>F335 R a0.1.2.2.2.1 a0.1.2.2.2.2.1 v3 λy5=>
let v6:=Int.tmod a1 (32:Int);(match (bnd v6 (32:Int)) with
|true=>k (y5.getD v6.toNat 0) (a0.1,y5,v3,true,a0.2.2.2.2)
|false=>none)
|false=>(match v3 !=a0.2.2.1 with
|true=>F335 R a0.1.2.2.2.1 a0.1.2.2.2.2.1 v3 λy9=>
let v10:=Int.tmod a1 (32:Int);(match (bnd v10 (32:Int)) with
|true=>k (y9.getD v10.toNat 0) (a0.1,y9,v3,true,a0.2.2.2.2)
|false=>none)
|false=>let v12:=Int.tmod a1 (32:Int);(match (bnd v12 (32:Int)) with
|true=>k (a0.2.1.getD v12.toNat 0) a0
|false=>none))))
theorem q334 (F335:WB):EQ (zuh (p334 F335)) (sE 1 67 [] [zlk F335] []) Tryz.f334 [(.tmp 4,5,false)]:=λ_ _ _=>by kernel_rfl
def F334:zon:=p334 F335
theorem zx7:OKP (zuh F334):=ST.ok0 (q334 F335) (Dk zx6 Dl) Tryz.func334
abbrev ML:Type 1:=(R:Type)->Tq43->(Int->Tq43->Option R)->Option R
abbrev zom:Kd:=Kq40
abbrev Zi:Kd:=Kq42
abbrev K328:Kd:=.pair zom Zi
def zui (F:ML):Ent:=⟨328,[(true,K328)],[(false,(.int .u64))],λR x k=>F R x.1 (λy1 p1=>k (y1,()) (p1,()))⟩
def zft:List (ResultVar×TypeId×Bool):=[(.tmp 2,32,false)]
def u328:(R:Type)->K328.T->Int->Zi.T->(Int->K328.T->Option R)->Option R:=λR a0 y2 q k=>
k (u64.wrap (iand .u8 (ishr .u8 y2 (u64.wrap ((7:Int) - (Int.tmod a0.1.2.2.2.2.2.1 (8:Int))))) (1:Int))) ((a0.1.1,a0.1.2.1,a0.1.2.2.1,a0.1.2.2.2.1,a0.1.2.2.2.2.1,(u64.wrap (a0.1.2.2.2.2.2.1+1)),a0.1.2.2.2.2.2.2),q)
def F328:ML:=λR a0 k=>
F334 R a0 (u64.wrap (Int.tdiv a0.1.2.2.2.2.2.1 (8:Int))) λy2 p3=>
match decide (0<=u64.wrap ((7:Int) - (Int.tmod a0.1.2.2.2.2.2.1 (8:Int)))) with
|true=>u328 R a0 y2 p3.2 k
|false=>none
theorem YA (R:Type) (a0:K328.T) (a1:Int) (k:Int->K328.T->Option R):F334 R a0 a1 k=F334 R a0 a1 (λy p=>@ite (Option R) (p.1=a0.1) (Classical.propDecidable _) (k y p) none):=by
 simp only [F334,p334,Ca]
def zbl {α:Type} (x y:α):Bool:=@decide (x=y) (Classical.propDecidable _)
theorem KN {α:Type} (x:α):zbl x x=true:=@decide_eq_true _ (Classical.propDecidable _) rfl
theorem zbk {α:Type} {x y:α} (h:zbl x y=true):x=y:=@of_decide_eq_true _ (Classical.propDecidable _) h
def TG (a0:K328.T) (a1 y:Int) (q:Zi.T):Ent:=⟨334,[(true,K328),(false,(.int .u64))],[(false,(.int .u8))],λ_ x k=>match zbl x (a0,a1,()) with | true=>k (y,()) ((a0.1,q),()) | false=>none⟩
theorem zsk {a0:K328.T} {a1 y:Int} {q:Zi.T} (h:Holds Tryz.prog 334 (avs [(true,K328),(false,(.int .u64))] (a0,a1,())) (rvs [(false,(.int .u8))] (y,())) (tvs [(true,K328),(false,(.int .u64))] ((a0.1,q),()))):(TG a0 a1 y q).OK Tryz.prog:=by
 intro R x k r hr;simp only [TG] at hr;split at hr
 ·rename_i he
  have:=zbk he;subst this;exact ⟨(y,()),((a0.1,q),()),h,hr⟩
 ·cases hr
def c328 (a0:K328.T) (a1 y:Int) (q:Zi.T):Env (St×List Acc):=⟨TT,EQT,1,32,E2 [],En [TG a0 a1 y q] _,Et [] _,[],Ep [],[],λ_ _ _ _=>none⟩
def e328 (R:Type):Env R:=⟨TT,EQT,1,32,E2 [],En [] R,Et [] R,[],Ep [],[],λ_ _ _ _=>none⟩
def Nr:Code->Code
 | .seq a _=>a
 | c=>c
def IH:Code->Array Oper
 | .seq _ (.seq (.region _ ops _) _)=>ops
 | _=>#[]
def zfw:Code->Oper
 | .seq _ (.seq (.region _ ops _) _)=>(ops[12]?).getD ⟨none,.assign (.tmp 0),0,"",#[],none⟩
 | _=>⟨none,.assign (.tmp 0),0,"",#[],none⟩
def Vh:Code->Code
 | .seq _ (.seq _ c)=>c
 | c=>c
def zay (a0:K328.T):St:=⟨[(0,.ptr 0 [] K328)],[(0,.var K328 a0 false)],1⟩
def zax (a0:K328.T):St:=⟨[(2,.val (.int .u64) (0:Int)),(0,.ptr 0 [] K328)],[(0,.var K328 a0 false)],1⟩
def zh8 (a0:K328.T) (y:Int) (q:Zi.T):St:=
  ⟨[(3,.val (.int .u8) (ishr .u8 y (u64.wrap ((7:Int) - (Int.tmod a0.1.2.2.2.2.2.1 (8:Int)))))),(19,.val (.int .u8) (ishr .u8 y (u64.wrap ((7:Int) - (Int.tmod a0.1.2.2.2.2.2.1 (8:Int)))))),
    (18,.val (.int .u64) (u64.wrap ((7:Int) - (Int.tmod a0.1.2.2.2.2.2.1 (8:Int))))),(17,.val (.int .u64) (Int.tmod a0.1.2.2.2.2.2.1 (8:Int))),(16,.val (.int .u64) a0.1.2.2.2.2.2.1),
    (15,.ptr 0 [.fld 0,.fld 5] (.int .u64)),(14,.ptr 0 [.fld 0] zom),(13,.ptr 0 [] K328),(12,.ptr 0 [] K328),(11,.val (.int .u8) y),(10,.val (.int .u64) (u64.wrap (Int.tdiv a0.1.2.2.2.2.2.1 (8:Int)))),(9,.val (.int .u64) a0.1.2.2.2.2.2.1),
    (8,.ptr 0 [.fld 0,.fld 5] (.int .u64)),(7,.ptr 0 [.fld 0] zom),(6,.ptr 0 [] K328),(5,.ptr 0 [] K328),(4,.ptr 0 [] K328),(2,.val (.int .u64) (0:Int)),(0,.ptr 0 [] K328)],
   [(0,.var K328 (a0.1,q) false),(0,.var K328 a0 false)],1⟩
def zgk:List Acc:=[([],[],false),([],[],false),([],[],false),([],[],false),([],[0],false),([],[],false),([],[],false),([],[],false),([],[],false),([0],[0,0],false),([],[],false),([],[0],false),([],[],false),([],[],false),([],[],false),([],[],false),([],[],false)]
theorem zwe (a0:K328.T):exec (e328 St) (Nr (Ds Tryz.f328)) (zay a0) (λe σ=>match e with | .normal=>some σ | _=>none)=some (zax a0):=by kernel_rfl
theorem zwd (a0:K328.T) (y:Int) (q:Zi.T):xops (c328 a0 (u64.wrap (Int.tdiv a0.1.2.2.2.2.2.1 (8:Int))) y q) 1 (IH (Ds Tryz.f328)) (IH (Ds Tryz.f328)).toList 0 (zax a0) [] (λσ' accs=>some (σ',accs))=
    (match zbl (a0,u64.wrap (Int.tdiv a0.1.2.2.2.2.2.1 (8:Int)),()) (a0,u64.wrap (Int.tdiv a0.1.2.2.2.2.2.1 (8:Int)),()) with
     | true=>(match decide (0<=u64.wrap ((7:Int) - (Int.tmod a0.1.2.2.2.2.2.1 (8:Int)))) with | true=>some (zh8 a0 y q,zgk) | false=>none)
     | false=>none):=by kernel_rfl
theorem zwc (R:Type) (a0:K328.T) (y:Int) (q:Zi.T) (k:RT [(false,Kd.int .u64)]->PT [(true,K328)]->Option R):
  exec (e328 R) (Vh (Ds Tryz.f328)) (zh8 a0 y q) (funK (e328 R) zft (finK [(false,.int .u64)] [(true,K328)] k))=u328 R a0 y q (λy1 p1=>k (y1,()) (p1,())):=by kernel_rfl
theorem zsn:(zui F328).OK Tryz.prog:=by
 intro R x k r h;obtain ⟨a0,u⟩:=x
 change F328 R a0 (λy1 p1=>k (y1,()) (p1,()))=some r at h
 unfold F328 at h;rw [YA] at h;obtain ⟨⟨y,uy⟩,⟨⟨p1,q⟩,up⟩,hH,hk⟩:=zx7 R (a0,u64.wrap (Int.tdiv a0.1.2.2.2.2.2.1 (8:Int)),()) (λy p=>(λ(y:Int) (p:K328.T)=>@ite (Option R) (p.1=a0.1) (Classical.propDecidable _) (match decide (0<=u64.wrap ((7:Int) - (Int.tmod a0.1.2.2.2.2.2.1 (8:Int)))) with
  | true=>u328 R a0 y p.2 (λy1 p1=>k (y1,()) (p1,()))
  | false=>none) none) y.1 p.1) r h
 simp only at hk;split at hk<;>try (cases hk; done)
 rename_i hp;subst hp;split at hk<;>try (cases hk; done)
 rename_i hv;have hE0:D7 Tryz.prog (e328 R):=⟨tabOK,eqOK,Dz Dl,E7,Du,noYl⟩
 have hE1:D7 Tryz.prog (e328 St):=⟨tabOK,eqOK,Dz Dl,E7,Du,noYl⟩
 have hE2:D7 Tryz.prog (c328 a0 (u64.wrap (Int.tdiv a0.1.2.2.2.2.2.1 (8:Int))) y q):=⟨tabOK,eqOK,Dz (Dk (zsk hH) Dl),E7,Du,noYl⟩
 have hL0:Leads 1 32 Tryz.prog (Nr (Ds Tryz.f328)) (zay a0) .normal (zax a0):=by
  obtain ⟨e,σ,h1,_,h2⟩:=Gg hE1 mixed (Nr (Ds Tryz.f328)) (by rw [show Dy (Nr (Ds Tryz.f328))=[] from by kernel_rfl]; exact E3) _ _ _ (zwe a0);cases e with
  | normal=>simp only [Ad] at h1; subst h1; exact h2
  | exit i=>cases h1
  | ret=>cases h1
 have hL1:Leads 1 32 Tryz.prog (.region 1 (IH (Ds Tryz.f328)) true) (zax a0) .normal (zh8 a0 y q):=by
  have hx:=zwd a0 y q;rw [KN,hv] at hx;obtain ⟨w1,w2⟩:=zbo (i0:=7) (b:=0) (l:=zgk.reverse) (by kernel_rfl);exact LB (j0:=12) (i0:=7) (b:=0) (d:=16) (t:=15) (nx:=1) (o:=zfw (Ds Tryz.f328)) (b1:=.var K328 a0 false) (b2:=.var K328 (a0.1,q) false) hE2 mixed hx (by kernel_rfl) w1 w2 (by omega)
   (by kernel_rfl) (by kernel_rfl) (by kernel_rfl) (by kernel_rfl) rfl (Nat.lt_of_succ_le (Bj rfl)) (OJ (by kernel_rfl)) (OI (by kernel_rfl))
   (by rw [show (zfw (Ds Tryz.f328)).op.operands=#[.tmp 15] from by kernel_rfl]; intro x hx; simpa using hx) rfl rfl
   (λB hB=>by rcases hB with rfl | rfl<;>kernel_rfl)
 have hbody:Ds Tryz.f328=.seq (Nr (Ds Tryz.f328)) (.seq (.region 1 (IH (Ds Tryz.f328)) true) (Vh (Ds Tryz.f328))):=by kernel_rfl
 have hx2:=zwc R a0 y q k;rw [hk] at hx2;obtain ⟨e,σ,h1,_,h2⟩:=Gg hE0 mixed (Vh (Ds Tryz.f328)) (by rw [show Dy (Vh (Ds Tryz.f328))=[] from by kernel_rfl]; exact E3) _ _ _ hx2;have hL:=Leads.seq hL0 (Leads.seq hL1 h2);rw [<-hbody] at hL;obtain ⟨rs,os,g1,g2⟩:=KH hE0 Tryz.func328 (body:=Ds Tryz.f328) (by kernel_rfl) (enters Tryz.func328 (by kernel_rfl) (by kernel_rfl)) (by kernel_rfl) (res:=zft) (by kernel_rfl) («as»:=[.ptr K328 a0]) rfl (Bj rfl) (tm0:=(zay a0).tm) (me0:=(zay a0).me) rfl hL h1;unfold finK at g2;split at g2<;>try (cases g2; done)
 rename_i y' hy;split at g2<;>try (cases g2; done)
 rename_i p' hp;rw [Lt hy,Nu hp] at g1;exact ⟨y',p',g1,g2⟩
abbrev FC:=(R:Type)->Tq40->Int->(Int->Tq40->Int->Option R)->Option R
def zls (F:FC):Ent:=eV 315 [Kq40,(.int .i64)] [(.int .u64),Kq40,(.int .i64)] F
abbrev ZG (Z:Type):=Int->Int->Int->Tq40->Tq43->Z
abbrev zg9 (R:Type):=(Int->Tq40->Tq43->Option R)->Option R
abbrev O8:=(R:Type)->ZG (zg9 R)
def BV (L:O8):LEnt:=lM 7 [.val 4 (.int .u64),.fix 5 (.ptr 1 [] Kq40),.fix 7 (.ptr 2 [] Kq43),.val 31 (.int .i64),.val 32 (.int .i64),.var 1 Kq40 false,.var 2 Kq43 false] 3 [(.exit 1,[.val 4 (.int .u64),.fix 5 (.ptr 1 [] Kq40),.fix 7 (.ptr 2 [] Kq43),.var 1 Kq40 false,.var 2 Kq43 false])] L
def e315 (F318:P0) (F327:EW) (F328:ML) (L7:O8):=sE 0 45 [] [LS F318,zlo F327,zui F328] [BV L7]
def PA (F328:ML) (R:Type):ZG (ZG (Option R)->zg9 R):=λx1 x2 x3 x4 x5 kc k0=>
(match decide (x3<x2) with
|true=>F328 R x5 λy8 p9=>
kc (ior .u64 (ishl .u64 x1 (1:Int)) y8) x2 (i64.wrap (x3+1)) x4 p9
|false=>k0 x1 x4 x5)
theorem zri (F318:P0) (F327:EW) (F328:ML) (L7:O8):LEQ (BV L7) (e315 F318 F327 F328 L7) Tryz.f315 (PA F328):=λ_ _ _ _=>by kernel_rfl
def Qg:Nat->O8
 | 0=>λ_ _ _ _ _ _ _=>none
 | n+1=>λR x1 x2 x3 x4 x5 k0=>PA F328 R x1 x2 x3 x4 x5 (λx1 x2 x3 x4 x5=>Qg n R x1 x2 x3 x4 x5 k0) k0
def p315 (F318:P0) (F327:EW) (L7:O8):FC:=λR a0 a1 k=>
F318 R a0 λy1=>
(match (!y1) with
|true=>k (0:Int) a0 (1:Int)
|false=>(match decide (a1<0) with
|true=>k (0:Int) a0 (1:Int)
|false=>(match decide (a1>64) with
|true=>k (0:Int) a0 (1:Int)
|false=>F327 R a0 λy5=>
(match decide ((u64.wrap a1)>y5) with
|true=>k (0:Int) a0 (8:Int)
|false=>L7 R (0:Int) a1 (0:Int) ((0:Int),([]:LI),(0:Int),(replicate 32 (0:Int)),(0:Int),(0:Int),()) (a0,(replicate 32 (0:Int)),(0:Int),false,()) (λx7 x8 x9=>
k x7 x9.1 (0:Int))))))
theorem q315 (F318:P0) (F327:EW) (F328:ML) (L7:O8):EQ (zls (p315 F318 F327 L7)) (e315 F318 F327 F328 L7) Tryz.f315 [(.tmp 4,32,false),(.cell 5 225,225,false),(.tmp 6,40,false)]:=λ_ _ _=>by kernel_rfl
def F315:FC:=p315 F318 F327 (Qg FUEL)
theorem zci:LKP (BV (Qg FUEL)) 0 45 7 Tryz.f315:=ST.lok (zri F318 F327 F328 (Qg FUEL)) (Dk QI (Dk zso (Dk zsn Dl))) [] trivial
theorem zsu:OKP (zls F315):=ST.ok1 (q315 F318 F327 F328 (Qg FUEL)) (Dk QI (Dk zso (Dk zsn Dl))) Tryz.func315 [7] ⟨⟨_,rfl,zci⟩,trivial⟩
abbrev FL:=(R:Type)->Tq40->Int->Int->(Int->Tq40->Int->Option R)->Option R
def zeg (F:FL):Ent:=eV 296 [Kq40,(.int .u64),(.int .i64)] [(.int .u64),Kq40,(.int .i64)] F
abbrev ZL (Z:Type):=Int->Int->Int->Tq40->Tq40->Z
abbrev zhe (R:Type):=(Int->Int->Tq40->Option R)->(Tq40->Tq40->Option R)->Option R
abbrev Pb:=(R:Type)->ZL (zhe R)
def CA (L:Pb):LEnt:=lM 4 [.val 1 (.int .u64),.fix 3 (.ptr 0 [] Kq40),.fix 7 (.ptr 1 [] Kq40),.val 18 (.int .i64),.val 19 (.int .i64),.var 0 Kq40 false,.var 1 Kq40 false] 2 [(.ret,[.val 6 (.int .u64),.fix 7 (.ptr 1 [] Kq40),.val 8 (.int .i64),.var 1 Kq40 false]),(.exit 0,[.fix 3 (.ptr 0 [] Kq40),.fix 7 (.ptr 1 [] Kq40),.var 0 Kq40 false,.var 1 Kq40 false])] L
def e296 (F314:FD) (F315:FC) (F316:FB) (L4:Pb):=sE 0 43 [] [zlt F314,zls F315,zlr F316] [CA L4]
def PD (F315:FC) (F316:FB) (R:Type):ZL (ZL (Option R)->zhe R):=λx1 x2 x3 x4 x5 kc k0 k1=>
(match decide (x3<x2) with
|true=>F316 R x1 λy7=>
F315 R x4 y7 λy8 y9 y10=>
(match y10 !=0 with
|true=>k0 (0:Int) y10 x4
|false=>(match decide (y8<x1) with
|true=>k0 y8 (0:Int) y9
|false=>kc x1 x2 (i64.wrap (x3+1)) y9 x5))
|false=>k1 x4 x5)
theorem zrn (F314:FD) (F315:FC) (F316:FB) (L4:Pb):LEQ (CA L4) (e296 F314 F315 F316 L4) Tryz.f296 (PD F315 F316):=λ_ _ _ _=>by kernel_rfl
def Sv:Nat->Pb
 | 0=>λ_ _ _ _ _ _ _ _=>none
 | n+1=>λR x1 x2 x3 x4 x5 k0 k1=>PD F315 F316 R x1 x2 x3 x4 x5 (λx1 x2 x3 x4 x5=>Sv n R x1 x2 x3 x4 x5 k0 k1) k0 k1
def p296 (F314:FD) (L4:Pb):FL:=λR a0 a1 a2 k=>
F314 R a0 a1 a2 λy1=>
(match (!y1) with
|true=>k (0:Int) a0 (1:Int)
|false=>L4 R a1 a2 (0:Int) a0 ((0:Int),([]:LI),(0:Int),(replicate 32 (0:Int)),(0:Int),(0:Int),()) (λx2 x3 x4=>
k x2 x4 x3) (λx5 x6=>
k (0:Int) x5 (9:Int)))
theorem q296 (F314:FD) (F315:FC) (F316:FB) (L4:Pb):EQ (zeg (p296 F314 L4)) (e296 F314 F315 F316 L4) Tryz.f296 [(.tmp 6,32,false),(.cell 7 225,225,false),(.tmp 8,40,false)]:=λ_ _ _=>by kernel_rfl
def F296:FL:=p296 F314 (Sv FUEL)
theorem zcn:LKP (CA (Sv FUEL)) 0 43 4 Tryz.f296:=ST.lok (zrn F314 F315 F316 (Sv FUEL)) (Dk zsv (Dk zsu (Dk zst Dl))) [] trivial
theorem zs3:OKP (zeg F296):=ST.ok1 (q296 F314 F315 F316 (Sv FUEL)) (Dk zsv (Dk zsu (Dk zst Dl))) Tryz.func296 [4] ⟨⟨_,rfl,zcn⟩,trivial⟩
end Go.PG
end
