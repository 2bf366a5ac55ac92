/- The types of the seat, told to the abstract layer. Written by program. -/
import Derived.Test.YtgbdndlmdklefaaGreatGK10
import Derived.Test.YtgbdndlmdklefaaGreatProg
import Derived.KernelRfl
import Derived.Test.YtgbdndlmdklefaaGreatGK11
import Derived.Laws.StructEq
set_option linter.unusedSimpArgs false
set_option linter.unusedVariables false
set_option maxRecDepth 100000
set_option maxHeartbeats 40000000
namespace Go.Proofs
open Go Go.Mu
def Tryz.ti1:TI:=⟨1,8,.func,.nilfn,false,false,false⟩
def Tryz.ti2:TI:=⟨1,8,.int .i64,.int .i64 0,false,false,false⟩
def Tryz.ti3:TI:=⟨1,8,.int .i64,.int .i64 0,false,false,false⟩
def Tryz.ti4:TI:=⟨1,1,.bool,.bool false,false,false,false⟩
def Tryz.ti5:TI:=⟨1,1,.int .u8,.int .u8 0,false,false,false⟩
def Tryz.ti9:TI:=⟨1,16,.str,.str ByteArray.empty,false,false,false⟩
def Tryz.ti22:TI:=⟨1,24,.slice 3,.list .full 0 [],false,false,false⟩
def Tryz.ti23:TI:=⟨1,8,.ptr 116,.nilptr,false,false,false⟩
def Tryz.ti26:TI:=⟨2,16,.strct [(0,3),(1,3)],.agg [.int .i64 0,.int .i64 0],false,false,false⟩
def Tryz.ti27:TI:=⟨1,24,.slice 67,.list .full 0 [],false,false,false⟩
def Tryz.ti28:TI:=⟨1,24,.slice 51,.list .full 0 [],false,false,false⟩
def Tryz.ti30:TI:=⟨6,80,.strct [(0,3),(1,3),(2,26),(4,27),(5,28)],.agg [.int .i64 0,.int .i64 0,.int .i64 0,.int .i64 0,.list .full 0 [],.list .full 0 []],false,false,false⟩
def Tryz.ti32:TI:=⟨2,48,.strct [(0,22),(1,22)],.agg [.list .full 0 [],.list .full 0 []],false,false,false⟩
def Tryz.ti36:TI:=⟨1,24,.slice 22,.list .full 0 [],false,false,false⟩
def Tryz.ti37:TI:=⟨1,8,.int .i64,.int .i64 0,false,false,false⟩
def Tryz.ti46:TI:=⟨1,24,.slice 26,.list .full 0 [],false,false,false⟩
def Tryz.ti47:TI:=⟨1,24,.slice 105,.list .full 0 [],false,false,false⟩
def Tryz.ti49:TI:=⟨3,56,.strct [(0,3),(1,46),(2,47)],.agg [.int .i64 0,.list .full 0 [],.list .full 0 []],false,false,false⟩
def Tryz.ti51:TI:=⟨6,80,.strct [(0,3),(1,3),(2,3),(3,49)],.agg [.int .i64 0,.int .i64 0,.int .i64 0,.int .i64 0,.list .full 0 [],.list .full 0 []],false,false,false⟩
def Tryz.ti67:TI:=⟨2,16,.strct [(0,3),(1,3)],.agg [.int .i64 0,.int .i64 0],false,false,false⟩
def Tryz.ti105:TI:=⟨6,48,.strct [(0,3),(1,3),(2,3),(3,3),(4,26)],.agg [.int .i64 0,.int .i64 0,.int .i64 0,.int .i64 0,.int .i64 0,.int .i64 0],false,false,false⟩
def Tryz.ti109:TI:=⟨6,48,.strct [(0,26),(2,26),(4,26)],.agg [.int .i64 0,.int .i64 0,.int .i64 0,.int .i64 0,.int .i64 0,.int .i64 0],false,false,false⟩
def Tryz.ti111:TI:=⟨9,72,.strct [(0,26),(2,26),(4,26),(6,26),(8,3)],.agg [.int .i64 0,.int .i64 0,.int .i64 0,.int .i64 0,.int .i64 0,.int .i64 0,.int .i64 0,.int .i64 0,.int .i64 0],false,false,false⟩
def Tryz.ti113:TI:=⟨18,160,.strct [(0,109),(6,111),(15,46),(16,3),(17,3)],.agg [.int .i64 0,.int .i64 0,.int .i64 0,.int .i64 0,.int .i64 0,.int .i64 0,.int .i64 0,.int .i64 0,.int .i64 0,.int .i64 0,.int .i64 0,.int .i64 0,.int .i64 0,.int .i64 0,.int .i64 0,.list .full 0 [],.int .i64 0,.int .i64 0],false,false,false⟩
def Tryz.ti114:TI:=⟨1,8,.int .u64,.int .u64 0,false,false,false⟩
def Tryz.ti116:TI:=⟨1,8,.strct [(0,114)],.agg [.int .u64 0],false,false,false⟩
def Tryz.ti117:TI:=⟨1,8,.int .u64,.int .u64 0,false,false,false⟩
def Tryz.ti119:TI:=⟨7,104,.strct [(0,30),(6,36)],.agg [.int .i64 0,.int .i64 0,.int .i64 0,.int .i64 0,.list .full 0 [],.list .full 0 [],.list .full 0 []],false,false,false⟩
def Tryz.ti120:TI:=⟨1,8,.map 127 4,.nilmap,false,false,false⟩
def Tryz.ti127:TI:=⟨4,32,.arr 4 3,.agg [.int .i64 0,.int .i64 0,.int .i64 0,.int .i64 0],true,false,true⟩
def Tryz.ti144:TI:=⟨1,8,.int .u64,.int .u64 0,false,false,false⟩
def Tryz.ti146:TI:=⟨1,24,.slice 127,.list .full 0 [],false,false,false⟩
def Tryz.ti164:TI:=⟨1,24,.slice 169,.list .full 0 [],false,false,false⟩
def Tryz.ti169:TI:=⟨3,24,.arr 3 3,.agg [.int .i64 0,.int .i64 0,.int .i64 0],false,false,false⟩
def Tryz.ti170:TI:=⟨1,8,.func,.nilfn,false,false,false⟩
def Tryz.ti179:TI:=⟨1,24,.slice 37,.list .full 0 [],false,false,false⟩
def Tryz.ti181:TI:=⟨1,8,.map 144 4,.nilmap,false,false,false⟩
def Tryz.ti184:TI:=⟨1,8,.func,.nilfn,false,false,false⟩
def Tryz.ti189:TI:=⟨1,8,.func,.nilfn,false,false,false⟩
def Tryz.ti190:TI:=⟨1,8,.func,.nilfn,false,false,false⟩
def Tryz.ti192:TI:=⟨1,8,.func,.nilfn,false,false,false⟩
def Tryz.ti195:TI:=⟨1,8,.func,.nilfn,false,false,false⟩
def Tryz.ti197:TI:=⟨1,8,.func,.nilfn,false,false,false⟩
def Tryz.ti198:TI:=⟨1,8,.func,.nilfn,false,false,false⟩
def Tryz.ti202:TI:=⟨1,8,.map 3 4,.nilmap,false,false,false⟩
def Tryz.ti203:TI:=⟨1,8,.func,.nilfn,false,false,false⟩
def Tryz.ti205:TI:=⟨21,184,.strct [(0,113),(18,26),(20,203)],.agg [.int .i64 0,.int .i64 0,.int .i64 0,.int .i64 0,.int .i64 0,.int .i64 0,.int .i64 0,.int .i64 0,.int .i64 0,.int .i64 0,.int .i64 0,.int .i64 0,.int .i64 0,.int .i64 0,.int .i64 0,.list .full 0 [],.int .i64 0,.int .i64 0,.int .i64 0,.int .i64 0,.nilfn],false,false,false⟩
def Tryz.ti210:TI:=⟨5,40,.strct [(0,26),(2,3),(3,3),(4,3)],.agg [.int .i64 0,.int .i64 0,.int .i64 0,.int .i64 0,.int .i64 0],false,false,true⟩
def Tryz.ti213:TI:=⟨1,16,.iface,.niliface,false,false,false⟩
def Tryz.ti215:TI:=⟨1,8,.map 3 164,.nilmap,false,false,false⟩
def Tryz.ti225:TI:=⟨1,8,.int .i64,.int .i64 0,false,false,false⟩
def Tryz.ti232:TI:=⟨1,4,.int .u32,.int .u32 0,false,false,false⟩
def Tryz.ti234:TI:=⟨1,8,.chan,.chan none,false,false,false⟩
def Tryz.ti236:TI:=⟨3,40,.strct [(0,3),(1,22),(2,37)],.agg [.int .i64 0,.list .full 0 [],.int .i64 0],false,false,false⟩
def Tryz.ti239:TI:=⟨1,8,.func,.nilfn,false,false,false⟩
def Tryz.ti242:TI:=⟨1,24,.slice 213,.list .full 0 [],false,false,false⟩
def Tryz.ti243:TI:=⟨1,8,.func,.nilfn,false,false,false⟩
def Tryz.ti244:TI:=⟨1,8,.func,.nilfn,false,false,false⟩
def Tryz.ti245:TI:=⟨1,8,.map 210 4,.nilmap,false,false,false⟩
def Tryz.ti247:TI:=⟨1,8,.func,.nilfn,false,false,false⟩
def Tryz.ti252:TI:=⟨7,56,.strct [(0,105),(6,3)],.agg [.int .i64 0,.int .i64 0,.int .i64 0,.int .i64 0,.int .i64 0,.int .i64 0,.int .i64 0],false,false,false⟩
def Tryz.ti254:TI:=⟨6,48,.strct [(0,105)],.agg [.int .i64 0,.int .i64 0,.int .i64 0,.int .i64 0,.int .i64 0,.int .i64 0],false,false,false⟩
def Tryz.ti255:TI:=⟨6,48,.strct [(0,105)],.agg [.int .i64 0,.int .i64 0,.int .i64 0,.int .i64 0,.int .i64 0,.int .i64 0],false,false,false⟩
def Tryz.ti265:TI:=⟨1,8,.ptr 3,.nilptr,false,false,false⟩
def Tryz.ti268:TI:=⟨1,8,.func,.nilfn,false,false,false⟩
def Tryz.ti270:TI:=⟨15,120,.strct [(0,109),(6,111)],.agg [.int .i64 0,.int .i64 0,.int .i64 0,.int .i64 0,.int .i64 0,.int .i64 0,.int .i64 0,.int .i64 0,.int .i64 0,.int .i64 0,.int .i64 0,.int .i64 0,.int .i64 0,.int .i64 0,.int .i64 0],false,false,false⟩
def Tryz.tyl:List (Nat×TI):=[(1,Tryz.ti1),(2,Tryz.ti2),(3,Tryz.ti3),(4,Tryz.ti4),(5,Tryz.ti5),(9,Tryz.ti9),(22,Tryz.ti22),(23,Tryz.ti23),(26,Tryz.ti26),(27,Tryz.ti27),(28,Tryz.ti28),(30,Tryz.ti30),(32,Tryz.ti32),(36,Tryz.ti36),(37,Tryz.ti37),(46,Tryz.ti46),(47,Tryz.ti47),(49,Tryz.ti49),(51,Tryz.ti51),(67,Tryz.ti67),(105,Tryz.ti105),(109,Tryz.ti109),(111,Tryz.ti111),(113,Tryz.ti113),(114,Tryz.ti114),(116,Tryz.ti116),(117,Tryz.ti117),(119,Tryz.ti119),(120,Tryz.ti120),(127,Tryz.ti127),(144,Tryz.ti144),(146,Tryz.ti146),(164,Tryz.ti164),(169,Tryz.ti169),(170,Tryz.ti170),(179,Tryz.ti179),(181,Tryz.ti181),(184,Tryz.ti184),(189,Tryz.ti189),(190,Tryz.ti190),(192,Tryz.ti192),(195,Tryz.ti195),(197,Tryz.ti197),(198,Tryz.ti198),(202,Tryz.ti202),(203,Tryz.ti203),(205,Tryz.ti205),(210,Tryz.ti210),(213,Tryz.ti213),(215,Tryz.ti215),(225,Tryz.ti225),(232,Tryz.ti232),(234,Tryz.ti234),(236,Tryz.ti236),(239,Tryz.ti239),(242,Tryz.ti242),(243,Tryz.ti243),(244,Tryz.ti244),(245,Tryz.ti245),(247,Tryz.ti247),(252,Tryz.ti252),(254,Tryz.ti254),(255,Tryz.ti255),(265,Tryz.ti265),(268,Tryz.ti268),(270,Tryz.ti270)]
def Tryz.ty(t:Nat):TI:=tyOf Tryz.tyl t
theorem Tryz.ty1:Tryz.ty 1=⟨1,8,.func,.nilfn,false,false,false⟩:=rfl
theorem Tryz.ty2:Tryz.ty 2=⟨1,8,.int .i64,.int .i64 0,false,false,false⟩:=rfl
theorem Tryz.ty3:Tryz.ty 3=⟨1,8,.int .i64,.int .i64 0,false,false,false⟩:=rfl
theorem Tryz.ty4:Tryz.ty 4=⟨1,1,.bool,.bool false,false,false,false⟩:=rfl
theorem Tryz.ty5:Tryz.ty 5=⟨1,1,.int .u8,.int .u8 0,false,false,false⟩:=rfl
theorem Tryz.ty9:Tryz.ty 9=⟨1,16,.str,.str ByteArray.empty,false,false,false⟩:=rfl
theorem Tryz.ty22:Tryz.ty 22=⟨1,24,.slice 3,.list .full 0 [],false,false,false⟩:=rfl
theorem Tryz.ty23:Tryz.ty 23=⟨1,8,.ptr 116,.nilptr,false,false,false⟩:=rfl
theorem Tryz.ty26:Tryz.ty 26=⟨2,16,.strct [(0,3),(1,3)],.agg [.int .i64 0,.int .i64 0],false,false,false⟩:=rfl
theorem Tryz.ty27:Tryz.ty 27=⟨1,24,.slice 67,.list .full 0 [],false,false,false⟩:=rfl
theorem Tryz.ty28:Tryz.ty 28=⟨1,24,.slice 51,.list .full 0 [],false,false,false⟩:=rfl
theorem Tryz.ty30:Tryz.ty 30=⟨6,80,.strct [(0,3),(1,3),(2,26),(4,27),(5,28)],.agg [.int .i64 0,.int .i64 0,.int .i64 0,.int .i64 0,.list .full 0 [],.list .full 0 []],false,false,false⟩:=rfl
theorem Tryz.ty32:Tryz.ty 32=⟨2,48,.strct [(0,22),(1,22)],.agg [.list .full 0 [],.list .full 0 []],false,false,false⟩:=rfl
theorem Tryz.ty36:Tryz.ty 36=⟨1,24,.slice 22,.list .full 0 [],false,false,false⟩:=rfl
theorem Tryz.ty37:Tryz.ty 37=⟨1,8,.int .i64,.int .i64 0,false,false,false⟩:=rfl
theorem Tryz.ty46:Tryz.ty 46=⟨1,24,.slice 26,.list .full 0 [],false,false,false⟩:=rfl
theorem Tryz.ty47:Tryz.ty 47=⟨1,24,.slice 105,.list .full 0 [],false,false,false⟩:=rfl
theorem Tryz.ty49:Tryz.ty 49=⟨3,56,.strct [(0,3),(1,46),(2,47)],.agg [.int .i64 0,.list .full 0 [],.list .full 0 []],false,false,false⟩:=rfl
theorem Tryz.ty51:Tryz.ty 51=⟨6,80,.strct [(0,3),(1,3),(2,3),(3,49)],.agg [.int .i64 0,.int .i64 0,.int .i64 0,.int .i64 0,.list .full 0 [],.list .full 0 []],false,false,false⟩:=rfl
theorem Tryz.ty67:Tryz.ty 67=⟨2,16,.strct [(0,3),(1,3)],.agg [.int .i64 0,.int .i64 0],false,false,false⟩:=rfl
theorem Tryz.ty105:Tryz.ty 105=⟨6,48,.strct [(0,3),(1,3),(2,3),(3,3),(4,26)],.agg [.int .i64 0,.int .i64 0,.int .i64 0,.int .i64 0,.int .i64 0,.int .i64 0],false,false,false⟩:=rfl
theorem Tryz.ty109:Tryz.ty 109=⟨6,48,.strct [(0,26),(2,26),(4,26)],.agg [.int .i64 0,.int .i64 0,.int .i64 0,.int .i64 0,.int .i64 0,.int .i64 0],false,false,false⟩:=rfl
theorem Tryz.ty111:Tryz.ty 111=⟨9,72,.strct [(0,26),(2,26),(4,26),(6,26),(8,3)],.agg [.int .i64 0,.int .i64 0,.int .i64 0,.int .i64 0,.int .i64 0,.int .i64 0,.int .i64 0,.int .i64 0,.int .i64 0],false,false,false⟩:=rfl
theorem Tryz.ty113:Tryz.ty 113=⟨18,160,.strct [(0,109),(6,111),(15,46),(16,3),(17,3)],.agg [.int .i64 0,.int .i64 0,.int .i64 0,.int .i64 0,.int .i64 0,.int .i64 0,.int .i64 0,.int .i64 0,.int .i64 0,.int .i64 0,.int .i64 0,.int .i64 0,.int .i64 0,.int .i64 0,.int .i64 0,.list .full 0 [],.int .i64 0,.int .i64 0],false,false,false⟩:=rfl
theorem Tryz.ty114:Tryz.ty 114=⟨1,8,.int .u64,.int .u64 0,false,false,false⟩:=rfl
theorem Tryz.ty116:Tryz.ty 116=⟨1,8,.strct [(0,114)],.agg [.int .u64 0],false,false,false⟩:=rfl
theorem Tryz.ty117:Tryz.ty 117=⟨1,8,.int .u64,.int .u64 0,false,false,false⟩:=rfl
theorem Tryz.ty119:Tryz.ty 119=⟨7,104,.strct [(0,30),(6,36)],.agg [.int .i64 0,.int .i64 0,.int .i64 0,.int .i64 0,.list .full 0 [],.list .full 0 [],.list .full 0 []],false,false,false⟩:=rfl
theorem Tryz.ty120:Tryz.ty 120=⟨1,8,.map 127 4,.nilmap,false,false,false⟩:=rfl
theorem Tryz.ty127:Tryz.ty 127=⟨4,32,.arr 4 3,.agg [.int .i64 0,.int .i64 0,.int .i64 0,.int .i64 0],true,false,true⟩:=rfl
theorem Tryz.ty144:Tryz.ty 144=⟨1,8,.int .u64,.int .u64 0,false,false,false⟩:=rfl
theorem Tryz.ty146:Tryz.ty 146=⟨1,24,.slice 127,.list .full 0 [],false,false,false⟩:=rfl
theorem Tryz.ty164:Tryz.ty 164=⟨1,24,.slice 169,.list .full 0 [],false,false,false⟩:=rfl
theorem Tryz.ty169:Tryz.ty 169=⟨3,24,.arr 3 3,.agg [.int .i64 0,.int .i64 0,.int .i64 0],false,false,false⟩:=rfl
theorem Tryz.ty170:Tryz.ty 170=⟨1,8,.func,.nilfn,false,false,false⟩:=rfl
theorem Tryz.ty179:Tryz.ty 179=⟨1,24,.slice 37,.list .full 0 [],false,false,false⟩:=rfl
theorem Tryz.ty181:Tryz.ty 181=⟨1,8,.map 144 4,.nilmap,false,false,false⟩:=rfl
theorem Tryz.ty184:Tryz.ty 184=⟨1,8,.func,.nilfn,false,false,false⟩:=rfl
theorem Tryz.ty189:Tryz.ty 189=⟨1,8,.func,.nilfn,false,false,false⟩:=rfl
theorem Tryz.ty190:Tryz.ty 190=⟨1,8,.func,.nilfn,false,false,false⟩:=rfl
theorem Tryz.ty192:Tryz.ty 192=⟨1,8,.func,.nilfn,false,false,false⟩:=rfl
theorem Tryz.ty195:Tryz.ty 195=⟨1,8,.func,.nilfn,false,false,false⟩:=rfl
theorem Tryz.ty197:Tryz.ty 197=⟨1,8,.func,.nilfn,false,false,false⟩:=rfl
theorem Tryz.ty198:Tryz.ty 198=⟨1,8,.func,.nilfn,false,false,false⟩:=rfl
theorem Tryz.ty202:Tryz.ty 202=⟨1,8,.map 3 4,.nilmap,false,false,false⟩:=rfl
theorem Tryz.ty203:Tryz.ty 203=⟨1,8,.func,.nilfn,false,false,false⟩:=rfl
theorem Tryz.ty205:Tryz.ty 205=⟨21,184,.strct [(0,113),(18,26),(20,203)],.agg [.int .i64 0,.int .i64 0,.int .i64 0,.int .i64 0,.int .i64 0,.int .i64 0,.int .i64 0,.int .i64 0,.int .i64 0,.int .i64 0,.int .i64 0,.int .i64 0,.int .i64 0,.int .i64 0,.int .i64 0,.list .full 0 [],.int .i64 0,.int .i64 0,.int .i64 0,.int .i64 0,.nilfn],false,false,false⟩:=rfl
theorem Tryz.ty210:Tryz.ty 210=⟨5,40,.strct [(0,26),(2,3),(3,3),(4,3)],.agg [.int .i64 0,.int .i64 0,.int .i64 0,.int .i64 0,.int .i64 0],false,false,true⟩:=rfl
theorem Tryz.ty213:Tryz.ty 213=⟨1,16,.iface,.niliface,false,false,false⟩:=rfl
theorem Tryz.ty215:Tryz.ty 215=⟨1,8,.map 3 164,.nilmap,false,false,false⟩:=rfl
theorem Tryz.ty225:Tryz.ty 225=⟨1,8,.int .i64,.int .i64 0,false,false,false⟩:=rfl
theorem Tryz.ty232:Tryz.ty 232=⟨1,4,.int .u32,.int .u32 0,false,false,false⟩:=rfl
theorem Tryz.ty234:Tryz.ty 234=⟨1,8,.chan,.chan none,false,false,false⟩:=rfl
theorem Tryz.ty236:Tryz.ty 236=⟨3,40,.strct [(0,3),(1,22),(2,37)],.agg [.int .i64 0,.list .full 0 [],.int .i64 0],false,false,false⟩:=rfl
theorem Tryz.ty239:Tryz.ty 239=⟨1,8,.func,.nilfn,false,false,false⟩:=rfl
theorem Tryz.ty242:Tryz.ty 242=⟨1,24,.slice 213,.list .full 0 [],false,false,false⟩:=rfl
theorem Tryz.ty243:Tryz.ty 243=⟨1,8,.func,.nilfn,false,false,false⟩:=rfl
theorem Tryz.ty244:Tryz.ty 244=⟨1,8,.func,.nilfn,false,false,false⟩:=rfl
theorem Tryz.ty245:Tryz.ty 245=⟨1,8,.map 210 4,.nilmap,false,false,false⟩:=rfl
theorem Tryz.ty247:Tryz.ty 247=⟨1,8,.func,.nilfn,false,false,false⟩:=rfl
theorem Tryz.ty252:Tryz.ty 252=⟨7,56,.strct [(0,105),(6,3)],.agg [.int .i64 0,.int .i64 0,.int .i64 0,.int .i64 0,.int .i64 0,.int .i64 0,.int .i64 0],false,false,false⟩:=rfl
theorem Tryz.ty254:Tryz.ty 254=⟨6,48,.strct [(0,105)],.agg [.int .i64 0,.int .i64 0,.int .i64 0,.int .i64 0,.int .i64 0,.int .i64 0],false,false,false⟩:=rfl
theorem Tryz.ty255:Tryz.ty 255=⟨6,48,.strct [(0,105)],.agg [.int .i64 0,.int .i64 0,.int .i64 0,.int .i64 0,.int .i64 0,.int .i64 0],false,false,false⟩:=rfl
theorem Tryz.ty265:Tryz.ty 265=⟨1,8,.ptr 3,.nilptr,false,false,false⟩:=rfl
theorem Tryz.ty268:Tryz.ty 268=⟨1,8,.func,.nilfn,false,false,false⟩:=rfl
theorem Tryz.ty270:Tryz.ty 270=⟨15,120,.strct [(0,109),(6,111)],.agg [.int .i64 0,.int .i64 0,.int .i64 0,.int .i64 0,.int .i64 0,.int .i64 0,.int .i64 0,.int .i64 0,.int .i64 0,.int .i64 0,.int .i64 0,.int .i64 0,.int .i64 0,.int .i64 0,.int .i64 0],false,false,false⟩:=rfl
theorem tk{t:Nat}{i:TI}{d:TypeDesc}(h4:Tryz.prog.underlying t=some d)(h5:KdOK d i.kd)(h1:(Tryz.prog.info? t).map (fun i=>(i.size,i.bytes))=some (i.sz,i.bytes):=by kernel_rfl)(h2:((Tryz.prog.info? t).bind (·.zero)).bind ofVal=some i.zero:=by kernel_rfl)(h3:i.zero.flat=true:=by rfl):TyOK Tryz.prog t i:=TyOK.of d h1 h2 h3 h4 h5
theorem Tryz.tysOK:TysOK Tryz.prog Tryz.ty:=tys_of (by
 simp only[Tryz.tyl,List.forall_mem_cons,List.not_mem_nil,false_implies,implies_true,and_true]
 exact⟨tk Tryz.underlying1 ⟨_,_,_,rfl⟩,tk Tryz.underlying2 rfl,tk Tryz.underlying3 rfl,tk Tryz.underlying4 rfl,tk Tryz.underlying5 rfl,tk Tryz.underlying9 rfl,tk Tryz.underlying22 rfl,tk Tryz.underlying23 rfl,tk Tryz.underlying26 ⟨_,rfl,rfl⟩,tk Tryz.underlying27 rfl,tk Tryz.underlying28 rfl,tk Tryz.underlying30 ⟨_,rfl,rfl⟩,tk Tryz.underlying32 ⟨_,rfl,rfl⟩,tk Tryz.underlying36 rfl,tk Tryz.underlying37 rfl,tk Tryz.underlying46 rfl,tk Tryz.underlying47 rfl,tk Tryz.underlying49 ⟨_,rfl,rfl⟩,tk Tryz.underlying51 ⟨_,rfl,rfl⟩,tk Tryz.underlying67 ⟨_,rfl,rfl⟩,tk Tryz.underlying105 ⟨_,rfl,rfl⟩,tk Tryz.underlying109 ⟨_,rfl,rfl⟩,tk Tryz.underlying111 ⟨_,rfl,rfl⟩,tk Tryz.underlying113 ⟨_,rfl,rfl⟩,tk Tryz.underlying114 rfl,tk Tryz.underlying116 ⟨_,rfl,rfl⟩,tk Tryz.underlying117 rfl,tk Tryz.underlying119 ⟨_,rfl,rfl⟩,tk Tryz.underlying120 rfl,tk Tryz.underlying127 rfl,tk Tryz.underlying144 rfl,tk Tryz.underlying146 rfl,tk Tryz.underlying164 rfl,tk Tryz.underlying169 rfl,tk Tryz.underlying170 ⟨_,_,_,rfl⟩,tk Tryz.underlying179 rfl,tk Tryz.underlying181 rfl,tk Tryz.underlying184 ⟨_,_,_,rfl⟩,tk Tryz.underlying189 ⟨_,_,_,rfl⟩,tk Tryz.underlying190 ⟨_,_,_,rfl⟩,tk Tryz.underlying192 ⟨_,_,_,rfl⟩,tk Tryz.underlying195 ⟨_,_,_,rfl⟩,tk Tryz.underlying197 ⟨_,_,_,rfl⟩,tk Tryz.underlying198 ⟨_,_,_,rfl⟩,tk Tryz.underlying202 rfl,tk Tryz.underlying203 ⟨_,_,_,rfl⟩,tk Tryz.underlying205 ⟨_,rfl,rfl⟩,tk Tryz.underlying210 ⟨_,rfl,rfl⟩,tk Tryz.underlying213 ⟨_,rfl⟩,tk Tryz.underlying215 rfl,tk Tryz.underlying225 rfl,tk Tryz.underlying232 rfl,tk Tryz.underlying234 ⟨_,_,rfl⟩,tk Tryz.underlying236 ⟨_,rfl,rfl⟩,tk Tryz.underlying239 ⟨_,_,_,rfl⟩,tk Tryz.underlying242 rfl,tk Tryz.underlying243 ⟨_,_,_,rfl⟩,tk Tryz.underlying244 ⟨_,_,_,rfl⟩,tk Tryz.underlying245 rfl,tk Tryz.underlying247 ⟨_,_,_,rfl⟩,tk Tryz.underlying252 ⟨_,rfl,rfl⟩,tk Tryz.underlying254 ⟨_,rfl,rfl⟩,tk Tryz.underlying255 ⟨_,rfl,rfl⟩,tk Tryz.underlying265 rfl,tk Tryz.underlying268 ⟨_,_,_,rfl⟩,tk Tryz.underlying270 ⟨_,rfl,rfl⟩⟩)
def Tryz.ord18:Nat→List Nat×List (Nat×List Nat)
 | 6=>([0,1,0,0,8,0,56,120,248,0,0,1536,4088,8191,16383,32767],[(0,[]),(1,[]),(2,[]),(3,[]),(4,[]),(5,[]),(6,[]),(7,[]),(8,[]),(9,[]),(10,[]),(11,[1,4,8]),(12,[]),(13,[]),(14,[]),(15,[])])
 | 16=>([0,0,3,7,15,0,32,127,255,511,1023,1023,2047,8191],[(0,[]),(1,[]),(2,[]),(3,[]),(4,[]),(5,[]),(6,[]),(7,[]),(8,[]),(9,[]),(10,[]),(11,[]),(12,[]),(13,[])])
 | _=>([],[])
def Tryz.ord19:Nat→List Nat×List (Nat×List Nat)
 | 5=>([0,0,2,6,14,0,0,96,224,480,1022,2046,4095,8191,16383],[(0,[]),(1,[]),(2,[]),(3,[]),(4,[]),(5,[]),(6,[]),(7,[]),(8,[]),(9,[]),(10,[]),(11,[]),(12,[]),(13,[]),(14,[])])
 | 6=>([0,0,2,6,14,0,32,96,224,480,1022,2047,4095,8191],[(0,[]),(1,[]),(2,[]),(3,[]),(4,[]),(5,[]),(6,[]),(7,[]),(8,[]),(9,[]),(10,[]),(11,[]),(12,[]),(13,[])])
 | _=>([],[])
def Tryz.ord20:Nat→List Nat×List (Nat×List Nat)
 | 15=>([0,1,0,0,8,24,60,0,252,508,1020,2047,4095,8191],[(0,[]),(1,[]),(2,[]),(3,[]),(4,[]),(5,[]),(7,[]),(6,[1]),(8,[1]),(9,[]),(10,[]),(11,[]),(12,[]),(13,[])])
 | 20=>([0,1,0,4,15,0,32,0,128,511,31,2047,4095,8191],[(0,[]),(1,[]),(2,[]),(3,[]),(5,[]),(6,[]),(7,[]),(8,[]),(4,[6]),(10,[]),(9,[]),(11,[]),(12,[]),(13,[])])
 | 21=>([0,0,1,7],[(0,[]),(1,[]),(2,[1]),(3,[])])
 | _=>([],[])
def Tryz.ord25:Nat→List Nat×List (Nat×List Nat)
 | 1=>([0,0,0,6,14,31,63,127,127,127,0,1279,3583,8191],[(0,[]),(1,[]),(2,[]),(3,[0]),(4,[]),(5,[]),(6,[]),(7,[]),(8,[]),(9,[]),(10,[]),(11,[]),(12,[]),(13,[])])
 | _=>([],[])
def Tryz.ord33:Nat→List Nat×List (Nat×List Nat)
 | 4=>([0,0,0,6,0,30,63,127,255,255,255,0,2559,7167,16383],[(0,[]),(1,[]),(2,[]),(4,[]),(3,[0]),(5,[]),(6,[]),(7,[]),(8,[]),(9,[]),(10,[]),(11,[]),(12,[]),(13,[]),(14,[])])
 | _=>([],[])
def Tryz.ord40:Nat→List Nat×List (Nat×List Nat)
 | 8=>([0,0,2,6,0,0,32,96,240,496,1022,2046,4095,8191],[(0,[]),(1,[]),(2,[]),(3,[]),(4,[]),(5,[]),(6,[]),(7,[]),(8,[]),(9,[]),(10,[]),(11,[]),(12,[]),(13,[])])
 | _=>([],[])
def Tryz.ord44:Nat→List Nat×List (Nat×List Nat)
 | 5=>([0,0,3,7,0,0,48,112,255,511],[(0,[]),(1,[]),(2,[]),(3,[]),(4,[]),(5,[]),(6,[]),(7,[]),(8,[]),(9,[])])
 | _=>([],[])
def Tryz.ord50:Nat→List Nat×List (Nat×List Nat)
 | 5=>([0,0,3,7,0,0,48,112,255,511],[(0,[]),(1,[]),(2,[]),(3,[]),(4,[]),(5,[]),(6,[]),(7,[]),(8,[]),(9,[])])
 | _=>([],[])
def Tryz.ord51:Nat→List Nat×List (Nat×List Nat)
 | 5=>([0,0,3,7,0,0,48,112,255,511],[(0,[]),(1,[]),(2,[]),(3,[]),(4,[]),(5,[]),(6,[]),(7,[]),(8,[]),(9,[])])
 | _=>([],[])
def Tryz.ord57:Nat→List Nat×List (Nat×List Nat)
 | 17=>([0,1,3,3,11,3,59,123,3,259,3,1795,3843,7939,3,3,3,98307,229379,3,1015811,2064387,4194303,8388607,16777215],[(0,[]),(1,[]),(2,[]),(3,[]),(4,[]),(5,[]),(6,[]),(7,[]),(8,[]),(9,[]),(10,[]),(11,[]),(12,[]),(14,[]),(15,[]),(16,[]),(17,[]),(18,[]),(19,[]),(20,[]),(21,[]),(13,[2,4,7,18,21]),(22,[]),(23,[]),(24,[])])
 | _=>([],[])
def Tryz.ord64:Nat→List Nat×List (Nat×List Nat)
 | 3=>([0,1,0,0,0,0,32,124,255,0,0,1024,3072,0,8192,32508,65535,131071],[(0,[]),(1,[]),(2,[]),(3,[]),(4,[]),(5,[]),(6,[]),(9,[]),(10,[]),(11,[]),(12,[]),(13,[]),(14,[]),(7,[1,11,14]),(8,[]),(15,[1]),(16,[]),(17,[])])
 | _=>([],[])
def Tryz.ord111:Nat→List Nat×List (Nat×List Nat)
 | 4=>([0,1,3,0,0,0,32,120,255,0,1023],[(0,[]),(1,[]),(2,[]),(3,[]),(4,[]),(5,[]),(6,[]),(7,[2]),(8,[]),(9,[]),(10,[])])
 | _=>([],[])
def Tryz.ord117:Nat→List Nat×List (Nat×List Nat)
 | 16=>([0,0,3,7,0,16,63,127,255],[(0,[]),(1,[]),(2,[]),(3,[]),(4,[]),(5,[]),(6,[]),(7,[]),(8,[])])
 | _=>([],[])
def Tryz.ord124:Nat→List Nat×List (Nat×List Nat)
 | 1=>([0,0,2,6,15,0,0,64,192,511,1023,0,4095],[(0,[]),(1,[]),(2,[]),(3,[]),(5,[]),(6,[]),(7,[]),(8,[]),(4,[8]),(9,[]),(10,[]),(11,[]),(12,[])])
 | 5=>([0,1,0,0,12,31,0,64,0,0,796,2012,4095,8191],[(0,[]),(1,[]),(2,[]),(3,[]),(6,[]),(7,[]),(8,[]),(9,[]),(4,[1,7,9]),(5,[]),(10,[1,7]),(11,[]),(12,[]),(13,[])])
 | _=>([],[])
def Tryz.ord126:Nat→List Nat×List (Nat×List Nat)
 | 1=>([0,0,0,6,15,31,63,63,127,511],[(0,[]),(1,[]),(2,[]),(3,[0]),(4,[]),(5,[]),(6,[]),(7,[]),(8,[]),(9,[])])
 | _=>([],[])
def Tryz.ord141:Nat→List Nat×List (Nat×List Nat)
 | 17=>([0,1,3,7,7,23,63,127,7,7,775,1799,4095,8191,16383],[(0,[]),(1,[]),(2,[]),(3,[]),(4,[]),(5,[]),(6,[]),(7,[]),(8,[]),(9,[]),(10,[]),(11,[]),(12,[]),(13,[]),(14,[])])
 | _=>([],[])
def Tryz.ord147:Nat→List Nat×List (Nat×List Nat)
 | 17=>([0,0,2,1,15],[(0,[]),(1,[]),(2,[]),(3,[2]),(4,[])])
 | _=>([],[])
def Tryz.ord159:Nat→List Nat×List (Nat×List Nat)
 | 5=>([0,0,0,4,14,30,63,127],[(0,[]),(1,[]),(2,[]),(3,[]),(4,[0]),(5,[]),(6,[]),(7,[])])
 | _=>([],[])
def Tryz.ord175:Nat→List Nat×List (Nat×List Nat)
 | 3=>([0,0,1,7],[(0,[]),(1,[]),(2,[1]),(3,[])])
 | 11=>([0,1,3,0,8,31,0,64,192,0,512,2047,4095,8191],[(0,[]),(1,[]),(2,[]),(3,[]),(4,[]),(5,[5]),(6,[]),(7,[]),(8,[]),(9,[]),(10,[]),(11,[11]),(12,[]),(13,[])])
 | _=>([],[])
def Tryz.ord179:Nat→List Nat×List (Nat×List Nat)
 | 17=>([0,1,3,7,7,7,39,119,247,7,7,1543,3591,8191,16383,32767,65535],[(0,[]),(1,[]),(2,[]),(3,[]),(4,[]),(5,[]),(6,[]),(7,[]),(8,[]),(9,[]),(10,[]),(11,[]),(12,[]),(13,[]),(14,[]),(15,[]),(16,[])])
 | _=>([],[])
def Tryz.ord182:Nat→List Nat×List (Nat×List Nat)
 | 4=>([0,0,3,7,15,15,63,127,15,15,527,1807,3855,8191,16383],[(0,[]),(1,[]),(2,[]),(3,[]),(4,[]),(5,[]),(6,[]),(7,[]),(8,[]),(9,[]),(10,[]),(11,[]),(12,[]),(13,[]),(14,[])])
 | 6=>([0,0,0,0,8,0,0,64,224,480,0,0,3072,7168,16355,32739,65535,131071],[(0,[]),(1,[]),(2,[]),(3,[]),(4,[]),(5,[]),(6,[]),(7,[]),(8,[]),(9,[]),(10,[]),(11,[]),(12,[]),(13,[]),(14,[]),(15,[]),(16,[]),(17,[])])
 | _=>([],[])
def Tryz.ord187:Nat→List Nat×List (Nat×List Nat)
 | 5=>([0,0,3,7,15,15,63,127,15,15,527,1807,3855,8191,16383,32767],[(0,[]),(1,[]),(2,[]),(3,[]),(4,[]),(5,[]),(6,[]),(7,[]),(8,[]),(9,[]),(10,[]),(11,[]),(12,[]),(13,[]),(14,[]),(15,[])])
 | 11=>([0,0,0,0,8,0,0,64,224,480,0,0,3072,7168,16355,32739,65535,131071],[(0,[]),(1,[]),(2,[]),(3,[]),(4,[]),(5,[]),(6,[]),(7,[]),(8,[]),(9,[]),(10,[]),(11,[]),(12,[]),(13,[]),(14,[]),(15,[]),(16,[]),(17,[])])
 | 16=>([0,0,3,7,0,0,32,112,240,511,1023],[(0,[]),(1,[]),(2,[]),(3,[]),(4,[]),(5,[]),(6,[]),(7,[]),(8,[]),(9,[]),(10,[])])
 | 17=>([0,0,0,0,8,0,0,64,224,480,0,0,3072,7168,16355,32739,65535,131071],[(0,[]),(1,[]),(2,[]),(3,[]),(4,[]),(5,[]),(6,[]),(7,[]),(8,[]),(9,[]),(10,[]),(11,[]),(12,[]),(13,[]),(14,[]),(15,[]),(16,[]),(17,[])])
 | 22=>([0,0,3,7,0,0,32,112,240,511,1023],[(0,[]),(1,[]),(2,[]),(3,[]),(4,[]),(5,[]),(6,[]),(7,[]),(8,[]),(9,[]),(10,[])])
 | 23=>([0,0,0,0,8,0,0,64,224,480,0,0,3072,7168,16355,32739,65535,131071],[(0,[]),(1,[]),(2,[]),(3,[]),(4,[]),(5,[]),(6,[]),(7,[]),(8,[]),(9,[]),(10,[]),(11,[]),(12,[]),(13,[]),(14,[]),(15,[]),(16,[]),(17,[])])
 | _=>([],[])
def Tryz.ord207:Nat→List Nat×List (Nat×List Nat)
 | 16=>([0,0,2,6,7,31],[(0,[]),(1,[]),(2,[2]),(3,[]),(4,[]),(5,[])])
 | _=>([],[])
def Tryz.ord208:Nat→List Nat×List (Nat×List Nat)
 | 4=>([0,1,3,7,15,0,32,96,255,511],[(0,[]),(1,[]),(2,[]),(3,[]),(4,[]),(5,[]),(6,[]),(7,[]),(8,[]),(9,[])])
 | 15=>([0,0,2,6,0,16,48,127,0,256,768,2047,4095,8191,16383],[(0,[]),(1,[]),(2,[]),(3,[]),(4,[]),(5,[]),(6,[]),(8,[]),(9,[]),(10,[]),(7,[10]),(11,[]),(12,[]),(13,[]),(14,[])])
 | _=>([],[])
def Tryz.ord210:Nat→List Nat×List (Nat×List Nat)
 | 4=>([0,0,3,7,15,15,15,111,239,15,15,1039,3599,7695,16383,32767,65535],[(0,[]),(1,[]),(2,[]),(3,[]),(4,[]),(5,[]),(6,[]),(7,[]),(8,[]),(9,[]),(10,[]),(11,[]),(12,[]),(13,[]),(14,[]),(15,[]),(16,[])])
 | 6=>([0,0,0,0,8,0,0,64,224,480,0,0,3072,7168,16355,32739,65535,131071],[(0,[]),(1,[]),(2,[]),(3,[]),(4,[]),(5,[]),(6,[]),(7,[]),(8,[]),(9,[]),(10,[]),(11,[]),(12,[]),(13,[]),(14,[]),(15,[]),(16,[]),(17,[])])
 | _=>([],[])
def Tryz.ord226:Nat→List Nat×List (Nat×List Nat)
 | 3=>([0,1,3,0,8,24,63,0,128,384,0,1024,3072,8191,8191,24575,65535,131071,262143,524287],[(0,[]),(1,[]),(2,[]),(3,[]),(4,[]),(5,[]),(6,[6]),(7,[]),(8,[]),(9,[]),(10,[]),(11,[]),(12,[]),(13,[13]),(14,[]),(15,[]),(16,[]),(17,[]),(18,[]),(19,[])])
 | 5=>([0,1,3,0,8,24,63,0,128,384,0,1024,3072,8191,8191,24575,65535,131071,262143,524287],[(0,[]),(1,[]),(2,[]),(3,[]),(4,[]),(5,[]),(6,[6]),(7,[]),(8,[]),(9,[]),(10,[]),(11,[]),(12,[]),(13,[13]),(14,[]),(15,[]),(16,[]),(17,[]),(18,[]),(19,[])])
 | _=>([],[])
def Tryz.ord229:Nat→List Nat×List (Nat×List Nat)
 | 1=>([0,1,3,7,15,0,32,96,255,511],[(0,[]),(1,[]),(2,[]),(3,[]),(4,[]),(5,[]),(6,[]),(7,[]),(8,[]),(9,[])])
 | _=>([],[])
def Tryz.ord230:Nat→List Nat×List (Nat×List Nat)
 | 1=>([0,1,3,0,8,24,63,0,128,384,0,1024,3072,8064,16383,32767],[(0,[]),(1,[]),(2,[]),(3,[]),(4,[]),(5,[]),(6,[]),(7,[]),(8,[]),(9,[]),(10,[]),(11,[]),(12,[]),(13,[]),(14,[]),(15,[])])
 | _=>([],[])
def Tryz.ord236:Nat→List Nat×List (Nat×List Nat)
 | 1=>([0,0,3,7,0,0,48,112,255],[(0,[]),(1,[]),(2,[]),(3,[]),(4,[]),(5,[]),(6,[]),(7,[]),(8,[])])
 | _=>([],[])
def Tryz.ord257:Nat→List Nat×List (Nat×List Nat)
 | 1=>([0,0,2,6,0,16,48,127,0,256,768,2047,0,4096,12288,28672,61440,0,131072,393216,917504,1966080,4194303,8388607],[(0,[]),(1,[]),(2,[]),(3,[]),(4,[]),(5,[]),(6,[]),(8,[]),(9,[]),(10,[]),(12,[]),(13,[]),(14,[]),(15,[]),(16,[]),(17,[]),(18,[]),(19,[]),(20,[]),(21,[]),(7,[10,15,20]),(11,[]),(22,[]),(23,[])])
 | _=>([],[])
def Tryz.ord258:Nat→List Nat×List (Nat×List Nat)
 | 1=>([0,1,3,7,15,0,32,96,224,480,1023,2047],[(0,[]),(1,[]),(2,[]),(3,[]),(4,[]),(5,[]),(6,[]),(7,[]),(8,[]),(9,[]),(10,[]),(11,[])])
 | _=>([],[])
end Go.Proofs
namespace Go.Proofs
def kq(b:Bool):List Nat→Nat→Bool
 | [],_=>b
 | a::l,t=>if t<a then b else kq (!b) l t
@[simp,go_sem] theorem kq_t{a t:Nat}{l:List Nat}:kq true (a::l) t=if t<a then true else kq false l t:=rfl
@[simp,go_sem] theorem kq_f{a t:Nat}{l:List Nat}:kq false (a::l) t=if t<a then false else kq true l t:=rfl
@[simp,go_sem] theorem kq_n{b:Bool}{t:Nat}:kq b [] t=b:=rfl
def Tryz.kp18(t:Nat):Bool:=kq true [1,2,5,6,19,34,35,68,69,72,73,88,89,106,107,136,137,140,141,150,151] t
def Tryz.kp19(t:Nat):Bool:=kq true [1,2,5,10,11] t
def Tryz.kp20(t:Nat):Bool:=kq true [4,8,18,39,40,43,44,61,62,81,82] t
def Tryz.kp21(t:Nat):Bool:=kq true [3,6,7] t
def Tryz.kp22(t:Nat):Bool:=kq true [4,5,7,14,15] t
def Tryz.kp38(t:Nat):Bool:=kq true [2,4,5,6,7] t
def Tryz.kp39(t:Nat):Bool:=kq true [2,4,5,7,8] t
def Tryz.kp40(t:Nat):Bool:=kq true [7,8,9,15,16,18,22] t
def Tryz.kp47(t:Nat):Bool:=kq true [3,4,11,17,18,19,23,26,27,33,34] t
def Tryz.kp50(t:Nat):Bool:=kq true [2,4,7,18,19] t
def Tryz.kp51(t:Nat):Bool:=kq true [2,4,7,18,19] t
def Tryz.kp60(t:Nat):Bool:=kq true [2,4,5] t
def Tryz.kp61(t:Nat):Bool:=kq true [3,6,7] t
def Tryz.kp64(t:Nat):Bool:=kq true [4,5,7,8,13,50,51,61,62] t
def Tryz.kp69(t:Nat):Bool:=kq true [6,8,11,15,16,35,36] t
def Tryz.kp76(t:Nat):Bool:=kq true [8,14,15,18,21] t
def Tryz.kp81(t:Nat):Bool:=kq true [10] t
def Tryz.kp82(t:Nat):Bool:=kq true [4] t
def Tryz.kp83(t:Nat):Bool:=kq true [5,8,9] t
def Tryz.kp84(t:Nat):Bool:=kq true [3,4,9,10,12,18,19,21,25,28,29,36,37] t
def Tryz.kp85(t:Nat):Bool:=kq true [1,2,7,9,10,11,12,19,20] t
def Tryz.kp88(t:Nat):Bool:=kq true [1,2,3] t
def Tryz.kp99(t:Nat):Bool:=kq true [3,6,7] t
def Tryz.kp102(t:Nat):Bool:=kq true [1,2,4] t
def Tryz.kp103(t:Nat):Bool:=kq true [7,10,11] t
def Tryz.kp106(t:Nat):Bool:=kq true [2,4,5] t
def Tryz.kp107(t:Nat):Bool:=kq true [3,4,7,9,11,13,14] t
def Tryz.kp111(t:Nat):Bool:=kq true [6,8,11,25,26] t
def Tryz.kp112(t:Nat):Bool:=kq true [1,2,6,8,10,13,14] t
def Tryz.kp117(t:Nat):Bool:=kq true [3,4,11,15,16,22,23,31,32,37,38,45,48] t
def Tryz.kp122(t:Nat):Bool:=kq true [5,10,11] t
def Tryz.kp123(t:Nat):Bool:=kq true [6,9,10,16,17] t
def Tryz.kp124(t:Nat):Bool:=kq true [2,4,6,7,8,19,23] t
def Tryz.kp125(t:Nat):Bool:=kq true [4] t
def Tryz.kp126(t:Nat):Bool:=kq true [3,4,10,11,13,22,23,25,29,37,38] t
def Tryz.kp127(t:Nat):Bool:=kq true [3,4,5,6,9,13,14,18,19,24,28,30,31,39,40,45,46,56,57,58,62,70,71] t
def Tryz.kp128(t:Nat):Bool:=kq true [3,4,9,13,14,20,21,29,30,41,42,54,56,74,75] t
def Tryz.kp130(t:Nat):Bool:=kq true [8,11,12,21,22] t
def Tryz.kp131(t:Nat):Bool:=kq true [3] t
def Tryz.kp132(t:Nat):Bool:=kq true [9,12,13,21,22,24,25] t
def Tryz.kp133(t:Nat):Bool:=kq true [5,6,13,14,16,24,25,32,33,35,36,47,48,49,50,61,62] t
def Tryz.kp134(t:Nat):Bool:=kq true [7,12,13,23,24,40,41,46,47,50,51,55,56,66,67] t
def Tryz.kp135(t:Nat):Bool:=kq true [8,17,18,21,22] t
def Tryz.kp136(t:Nat):Bool:=kq true [6,7,8,12,15,19,22,26,27,29,33,41,42] t
def Tryz.kp137(t:Nat):Bool:=kq true [6,8,9,10,13,16,17] t
def Tryz.kp138(t:Nat):Bool:=kq true [2,4,5] t
def Tryz.kp139(t:Nat):Bool:=kq true [2,4,13,19,20,28,29,35,36] t
def Tryz.kp140(t:Nat):Bool:=kq true [2,4,5] t
def Tryz.kp141(t:Nat):Bool:=kq true [4,8,19,23,24,29,30,35,36,50,51,68,69,72,73,87,88,113,114] t
def Tryz.kp142(t:Nat):Bool:=kq true [1,2,3] t
def Tryz.kp144(t:Nat):Bool:=kq true [4,6,8,9,10,12,16,27,28] t
def Tryz.kp146(t:Nat):Bool:=kq true [4,5,7,31,32,39,40,45,49,51,52,59,60,68,69] t
def Tryz.kp147(t:Nat):Bool:=kq true [10,15,19,34,37,54,55] t
def Tryz.kp150(t:Nat):Bool:=kq true [5] t
def Tryz.kp151(t:Nat):Bool:=kq true [7,10,13,16,19,24,25] t
def Tryz.kp155(t:Nat):Bool:=kq true [2,4,5] t
def Tryz.kp156(t:Nat):Bool:=kq true [3,4,5] t
def Tryz.kp157(t:Nat):Bool:=kq true [2,4,5] t
def Tryz.kp158(t:Nat):Bool:=kq true [1,2,3] t
def Tryz.kp159(t:Nat):Bool:=kq true [4,5,6,7,11] t
def Tryz.kp160(t:Nat):Bool:=kq true [3,4,7,10,11,13,14] t
def Tryz.kp161(t:Nat):Bool:=kq true [3,4,5,11,12] t
def Tryz.kp162(t:Nat):Bool:=kq true [3,6,7] t
def Tryz.kp163(t:Nat):Bool:=kq true [4,5,7] t
def Tryz.kp164(t:Nat):Bool:=kq true [1,2,7,10,11] t
def Tryz.kp165(t:Nat):Bool:=kq true [3,4,5] t
def Tryz.kp166(t:Nat):Bool:=kq true [7,12,14,25,26] t
def Tryz.kp167(t:Nat):Bool:=kq true [3,4,5] t
def Tryz.kp168(t:Nat):Bool:=kq true [8,14,15,29,30] t
def Tryz.kp169(t:Nat):Bool:=kq true [3,4,5,6,8,13,14] t
def Tryz.kp170(t:Nat):Bool:=kq true [2,4,6,7,8,9,10,11,15,19,23] t
def Tryz.kp171(t:Nat):Bool:=kq true [4] t
def Tryz.kp172(t:Nat):Bool:=kq true [4,6,8,22,23] t
def Tryz.kp173(t:Nat):Bool:=kq true [3,6,7,8,14,21,22] t
def Tryz.kp174(t:Nat):Bool:=kq true [3,6,7] t
def Tryz.kp175(t:Nat):Bool:=kq true [7,8,9,18,19,22,26] t
def Tryz.kp176(t:Nat):Bool:=kq true [3,4,5,6,11] t
def Tryz.kp177(t:Nat):Bool:=kq true [5] t
def Tryz.kp178(t:Nat):Bool:=kq true [1,2,3] t
def Tryz.kp179(t:Nat):Bool:=kq true [5,10,21,25,26,32,33,39,40,56,57,75,76,80,81,97,98,125,126] t
def Tryz.kp180(t:Nat):Bool:=kq true [2,4,7,11,14,16,17,19,20] t
def Tryz.kp181(t:Nat):Bool:=kq true [2,4,6,7,10,16,17] t
def Tryz.kp182(t:Nat):Bool:=kq true [3,6,8,12,13,30,31] t
def Tryz.kp185(t:Nat):Bool:=kq true [3,6,13,32,33,34,35,49,50,51,52,54,55] t
def Tryz.kp187(t:Nat):Bool:=kq true [3,6,11,14,15,32,33,37,38,41,42,61,62,65,66,78,79,98,99,103,104,116,117] t
def Tryz.kp188(t:Nat):Bool:=kq true [2,4,5] t
def Tryz.kp192(t:Nat):Bool:=kq true [1,2,3,4,5,8,9,14,15] t
def Tryz.kp193(t:Nat):Bool:=kq true [6] t
def Tryz.kp199(t:Nat):Bool:=kq true [5] t
def Tryz.kp200(t:Nat):Bool:=kq true [7,8,10,14,15,21,22,36,37,51,52] t
def Tryz.kp201(t:Nat):Bool:=kq true [2,4,6,7,10,16,17] t
def Tryz.kp202(t:Nat):Bool:=kq true [3,4,8] t
def Tryz.kp203(t:Nat):Bool:=kq true [5] t
def Tryz.kp204(t:Nat):Bool:=kq true [7,8,9,10,12,16,21,26,27,44,45,55,56] t
def Tryz.kp205(t:Nat):Bool:=kq true [8,12,13,19,20] t
def Tryz.kp206(t:Nat):Bool:=kq true [5] t
def Tryz.kp207(t:Nat):Bool:=kq true [5,6,10,25,26,43,46,57,60] t
def Tryz.kp208(t:Nat):Bool:=kq true [2,3,11,12,14,38,39,48,49,55,57,73,74] t
def Tryz.kp209(t:Nat):Bool:=kq true [1,2,3] t
def Tryz.kp210(t:Nat):Bool:=kq true [4,8,10,14,15,34,35] t
def Tryz.kp218(t:Nat):Bool:=kq true [1,2,3] t
def Tryz.kp223(t:Nat):Bool:=kq true [5,10,11] t
def Tryz.kp225(t:Nat):Bool:=kq true [3,4,5,14,15,29,30] t
def Tryz.kp226(t:Nat):Bool:=kq true [3,4,7,26,27] t
def Tryz.kp227(t:Nat):Bool:=kq true [5] t
def Tryz.kp228(t:Nat):Bool:=kq true [4,22,23] t
def Tryz.kp229(t:Nat):Bool:=kq true [6] t
def Tryz.kp230(t:Nat):Bool:=kq true [4,6,7] t
def Tryz.kp232(t:Nat):Bool:=kq true [1,2,3] t
def Tryz.kp236(t:Nat):Bool:=kq true [4,8,10,18,19] t
def Tryz.kp238(t:Nat):Bool:=kq true [5] t
def Tryz.kp257(t:Nat):Bool:=kq true [5] t
def Tryz.kp258(t:Nat):Bool:=kq true [5] t
end Go.Proofs
namespace Go.Proofs
open Go Go.Mu
theorem agg_len5{xs:List Int}(h:xs.length=5):∃x1 x2 x3 x4 x5,xs=[x1,x2,x3,x4,x5]:=by
 match xs,h with
 | [x1,x2,x3,x4,x5],_=>exact⟨x1,x2,x3,x4,x5,rfl⟩
theorem agg_len4{xs:List Int}(h:xs.length=4):∃x1 x2 x3 x4,xs=[x1,x2,x3,x4]:=by
 match xs,h with
 | [x1,x2,x3,x4],_=>exact⟨x1,x2,x3,x4,rfl⟩
theorem Tryz.ck3r(e:Bool)(d:Nat)(x:Int)(w:World):(Instr.checkKey e (d+1) 3 (.int .i64 x)).run Tryz.prog w= .ok () w:=by
 have hu:∀w,(underlying 3).run Tryz.prog w= .ok (.int .i64) w:=fun w=>run_underlying Tryz.underlying3 w
 simp only[Instr.checkKey,Sem.run_bind,hu,Result.andThen_ok,Sem.run_pure]
theorem Tryz.eq26r(d:Nat)(a1 a2 b1 b2:Int)(w:World):(Op.equalIn (d+2) 26 (.agg #[.int .i64 a1,.int .i64 a2]) (.agg #[.int .i64 b1,.int .i64 b2])).run Tryz.prog w= .ok (a1==b1&&(a2==b2)) w:=by
 rw[run_equalIn_struct w (d+1) 26 _ _ (by simp only[Program.fieldsOf,Tryz.underlying26]) (by kernel_rfl)]
 simp only[Program.fieldsOf,Tryz.underlying26]
 have ha3:∀w,(isAgg 3).run Tryz.prog w= .ok false w:=fun w=>run_agg (ty:=Tryz.ty) Tryz.tysOK (by rw[Tryz.ty3];rfl) w
 have hs3:∀w,(Go.sizeOf 3).run Tryz.prog w= .ok 1 w:=fun w=>run_size (ty:=Tryz.ty) Tryz.tysOK (by rw[Tryz.ty3];simp) w
 by_cases h1:a1=b1<;> by_cases h2:a2=b2<;> simp[Op.eqFields,part,ha3,hs3,run_equalIn_int _ _ _ _ _ _ _ Tryz.underlying3,h1,h2]
theorem Tryz.ck26r(e:Bool)(d:Nat)(a1 a2:Int)(w:World):(Instr.checkKey e (d+2) 26 (.agg #[.int .i64 a1,.int .i64 a2])).run Tryz.prog w= .ok () w:=by
 have hu:=fun w=>run_underlying Tryz.underlying26 w
 have ha3:∀w,(isAgg 3).run Tryz.prog w= .ok false w:=fun w=>run_agg (ty:=Tryz.ty) Tryz.tysOK (by rw[Tryz.ty3];rfl) w
 have hs3:∀w,(Go.sizeOf 3).run Tryz.prog w= .ok 1 w:=fun w=>run_size (ty:=Tryz.ty) Tryz.tysOK (by rw[Tryz.ty3];simp) w
 rw[show d+2=(d+1)+1 from rfl,Instr.checkKey]
 simp[hu,Std.Legacy.Range.forIn_eq_forIn_range',Std.Legacy.Range.size,List.range',part,ha3,hs3,Tryz.ck3r]
theorem Tryz.eq127r(d:Nat)(a1 a2 a3 a4 b1 b2 b3 b4:Int)(w:World):(Op.equalIn (d+2) 127 (.agg #[.int .i64 a1,.int .i64 a2,.int .i64 a3,.int .i64 a4]) (.agg #[.int .i64 b1,.int .i64 b2,.int .i64 b3,.int .i64 b4])).run Tryz.prog w= .ok (a1==b1&&(a2==b2&&(a3==b3&&(a4==b4)))) w:=by
 have hu:∀w,(underlying 127).run Tryz.prog w= .ok (.array 4 3) w:=fun w=>run_underlying Tryz.underlying127 w
 have ha3:∀w,(isAgg 3).run Tryz.prog w= .ok false w:=fun w=>run_agg (ty:=Tryz.ty) Tryz.tysOK (by rw[Tryz.ty3];rfl) w
 have hs3:∀w,(Go.sizeOf 3).run Tryz.prog w= .ok 1 w:=fun w=>run_size (ty:=Tryz.ty) Tryz.tysOK (by rw[Tryz.ty3];simp) w
 rw[show d+2=(d+1)+1 from rfl,Op.equalIn]
 by_cases h1:a1=b1<;> by_cases h2:a2=b2<;> by_cases h3:a3=b3<;> by_cases h4:a4=b4<;> simp[hu,Std.Legacy.Range.forIn_eq_forIn_range',Std.Legacy.Range.size,List.range',part,ha3,hs3,run_equalIn_int _ _ _ _ _ _ _ Tryz.underlying3,h1,h2,h3,h4]
theorem Tryz.ck127r(e:Bool)(d:Nat)(a1 a2 a3 a4:Int)(w:World):(Instr.checkKey e (d+2) 127 (.agg #[.int .i64 a1,.int .i64 a2,.int .i64 a3,.int .i64 a4])).run Tryz.prog w= .ok () w:=by
 have hu:=fun w=>run_underlying Tryz.underlying127 w
 have ha3:∀w,(isAgg 3).run Tryz.prog w= .ok false w:=fun w=>run_agg (ty:=Tryz.ty) Tryz.tysOK (by rw[Tryz.ty3];rfl) w
 have hs3:∀w,(Go.sizeOf 3).run Tryz.prog w= .ok 1 w:=fun w=>run_size (ty:=Tryz.ty) Tryz.tysOK (by rw[Tryz.ty3];simp) w
 rw[show d+2=(d+1)+1 from rfl,Instr.checkKey]
 simp[hu,Std.Legacy.Range.forIn_eq_forIn_range',Std.Legacy.Range.size,List.range',part,ha3,hs3,Tryz.ck3r]
theorem Tryz.eq210r(d:Nat)(a1 a2 a3 a4 a5 b1 b2 b3 b4 b5:Int)(w:World):(Op.equalIn (d+3) 210 (.agg #[.int .i64 a1,.int .i64 a2,.int .i64 a3,.int .i64 a4,.int .i64 a5]) (.agg #[.int .i64 b1,.int .i64 b2,.int .i64 b3,.int .i64 b4,.int .i64 b5])).run Tryz.prog w= .ok (a1==b1&&(a2==b2&&(a3==b3&&(a4==b4&&(a5==b5))))) w:=by
 rw[run_equalIn_struct w (d+2) 210 _ _ (by simp only[Program.fieldsOf,Tryz.underlying210]) (by kernel_rfl)]
 simp only[Program.fieldsOf,Tryz.underlying210]
 have ha3:∀w,(isAgg 3).run Tryz.prog w= .ok false w:=fun w=>run_agg (ty:=Tryz.ty) Tryz.tysOK (by rw[Tryz.ty3];rfl) w
 have hs3:∀w,(Go.sizeOf 3).run Tryz.prog w= .ok 1 w:=fun w=>run_size (ty:=Tryz.ty) Tryz.tysOK (by rw[Tryz.ty3];simp) w
 have ha26:∀w,(isAgg 26).run Tryz.prog w= .ok true w:=fun w=>run_agg (ty:=Tryz.ty) Tryz.tysOK (by rw[Tryz.ty26];rfl) w
 have hs26:∀w,(Go.sizeOf 26).run Tryz.prog w= .ok 2 w:=fun w=>run_size (ty:=Tryz.ty) Tryz.tysOK (by rw[Tryz.ty26];simp) w
 by_cases h1:a1=b1<;> by_cases h2:a2=b2<;> by_cases h3:a3=b3<;> by_cases h4:a4=b4<;> by_cases h5:a5=b5<;> simp[Op.eqFields,part,ha3,ha26,hs3,hs26,run_equalIn_int _ _ _ _ _ _ _ Tryz.underlying3,Tryz.eq26r,h1,h2,h3,h4,h5]
theorem Tryz.ck210r(e:Bool)(d:Nat)(a1 a2 a3 a4 a5:Int)(w:World):(Instr.checkKey e (d+3) 210 (.agg #[.int .i64 a1,.int .i64 a2,.int .i64 a3,.int .i64 a4,.int .i64 a5])).run Tryz.prog w= .ok () w:=by
 have hu:=fun w=>run_underlying Tryz.underlying210 w
 have ha3:∀w,(isAgg 3).run Tryz.prog w= .ok false w:=fun w=>run_agg (ty:=Tryz.ty) Tryz.tysOK (by rw[Tryz.ty3];rfl) w
 have hs3:∀w,(Go.sizeOf 3).run Tryz.prog w= .ok 1 w:=fun w=>run_size (ty:=Tryz.ty) Tryz.tysOK (by rw[Tryz.ty3];simp) w
 have ha26:∀w,(isAgg 26).run Tryz.prog w= .ok true w:=fun w=>run_agg (ty:=Tryz.ty) Tryz.tysOK (by rw[Tryz.ty26];rfl) w
 have hs26:∀w,(Go.sizeOf 26).run Tryz.prog w= .ok 2 w:=fun w=>run_size (ty:=Tryz.ty) Tryz.tysOK (by rw[Tryz.ty26];simp) w
 rw[show d+3=(d+2)+1 from rfl,Instr.checkKey]
 simp[hu,Std.Legacy.Range.forIn_eq_forIn_range',Std.Legacy.Range.size,List.range',part,ha3,ha26,hs3,hs26,Tryz.ck3r,Tryz.ck26r]
theorem Tryz.eqsOK:EqsOK Tryz.prog Tryz.ty:=by
 have heqn:∀t,(Tryz.ty t).eqn=true→t=127:=by
  intro t ht
  unfold Tryz.ty tyOf at ht
  cases hf:Tryz.tyl.find? (fun p=>p.1==t) with
  | none=>rw[hf] at ht;cases ht
  | some p=>
   have h1:=List.mem_of_find?_eq_some hf
   have h2:=List.find?_some hf
   simp at h2;subst h2
   rw[hf] at ht
   have h3:(Tryz.tyl.all fun p=> !p.2.eqn||(p.1==127))=true:=rfl
   have h4:=List.all_eq_true.1 h3 p h1
   have ht':p.2.eqn=true:=ht
   simpa[ht',or_assoc] using h4
 have hkeyn:∀t,(Tryz.ty t).keyn=true→t=127∨t=210:=by
  intro t ht
  unfold Tryz.ty tyOf at ht
  cases hf:Tryz.tyl.find? (fun p=>p.1==t) with
  | none=>rw[hf] at ht;cases ht
  | some p=>
   have h1:=List.mem_of_find?_eq_some hf
   have h2:=List.find?_some hf
   simp at h2;subst h2
   rw[hf] at ht
   have h3:(Tryz.tyl.all fun p=> !p.2.keyn||(p.1==127||p.1==210))=true:=rfl
   have h4:=List.all_eq_true.1 h3 p h1
   have ht':p.2.keyn=true:=ht
   simpa[ht',or_assoc] using h4
 refine⟨fun t ht=>?_,fun t ht xs ys w h1 h2=>?_,fun t ht=>?_,fun t ht xs ys w h1 h2=>?_,fun t ht e xs w h1=>?_⟩
 ·rcases heqn t ht with rfl<;> kernel_rfl
 ·rcases heqn t ht with rfl
  ·obtain⟨u1,u2,u3,u4,rfl⟩:=agg_len4 h1
   obtain⟨v1,v2,v3,v4,rfl⟩:=agg_len4 h2
   have:=Tryz.eq127r 9998 u1 u2 u3 u4 v1 v2 v3 v4 w
   simpa[Op.equal,Op.maxDepth] using this
 ·rcases hkeyn t ht with rfl | rfl<;> (intro h;cases h)
 ·rcases hkeyn t ht with rfl | rfl
  ·obtain⟨u1,u2,u3,u4,rfl⟩:=agg_len4 h1
   obtain⟨v1,v2,v3,v4,rfl⟩:=agg_len4 h2
   have:=Tryz.eq127r 9998 u1 u2 u3 u4 v1 v2 v3 v4 w
   simpa[Op.equal,Op.maxDepth] using this
  ·obtain⟨u1,u2,u3,u4,u5,rfl⟩:=agg_len5 h1
   obtain⟨v1,v2,v3,v4,v5,rfl⟩:=agg_len5 h2
   have:=Tryz.eq210r 9997 u1 u2 u3 u4 u5 v1 v2 v3 v4 v5 w
   simpa[Op.equal,Op.maxDepth] using this
 ·rcases hkeyn t ht with rfl | rfl
  ·obtain⟨u1,u2,u3,u4,rfl⟩:=agg_len4 h1
   exact Tryz.ck127r e 9998 u1 u2 u3 u4 w
  ·obtain⟨u1,u2,u3,u4,u5,rfl⟩:=agg_len5 h1
   exact Tryz.ck210r e 9997 u1 u2 u3 u4 u5 w
theorem method_of{P:Program}{t:TypeId}{s:String}{f:FuncId}{fs:Array Field}(h1:((P.info? t).bind fun i=>i.methods.find? fun m=>m.name==s).map (fun m=>(m.path.toList,m.func))=some ([],some (f,false)))
  (h2:P.underlying t=some (.struct fs)) (n:Nat) (c:Value) (w:World):(method (n+1) t c s).run P w= .ok (f,c) w:=by
 cases hi:P.info? t with
 | none=>rw[hi] at h1;cases h1
 | some i=>
  rw[hi] at h1
  simp only[Option.bind_some] at h1
  cases hm:i.methods.find? (fun m=>m.name==s) with
  | none=>rw[hm] at h1;cases h1
  | some m=>
   rw[hm] at h1
   simp only[Option.map_some,Option.some.injEq,Prod.mk.injEq] at h1
   obtain⟨hp,hf⟩:=h1
   have hpe:m.path= #[]:=by apply Array.ext';simpa using hp
   simp[method,typeInfo,underlying,hi,hm,hpe,hf,follow,receiverAt,h2,Place.get,Sem.run_bind,Result.andThen_ok]
theorem method_tm{P:Program}{t:TypeId}{s:String}{f:FuncId}{fs:Array Field}(h1:((P.info? t).bind fun i=>i.methods.find? fun m=>m.name==s).map (fun m=>(m.path.toList,m.func))=some ([],some (f,false)))
  (h2:P.underlying t=some (.struct fs)) (n:Nat) (c:Value):Tm P (method (n+1) t c s) fun r=>r.1=f:=by
 unfold method typeInfo
 refine Tm_bind (Tm_bind (Tm_program ?_))
 split
 ·rename_i i hi
  rw[hi] at h1
  simp only[Option.bind_some] at h1
  refine Tm_pure ?_
  cases hm:i.methods.find? (fun m=>m.name==s) with
  | none=>rw[hm] at h1;cases h1
  | some m=>
   rw[hm] at h1
   simp only[Option.map_some,Option.some.injEq,Prod.mk.injEq] at h1
   obtain⟨hp,hf⟩:=h1
   have hpe:m.path= #[]:=by apply Array.ext';simpa using hp
   simp only[hpe,hf,follow]
   refine Tm_bind (Tm_pure ?_)
   refine Tm_bind ?_
   unfold receiverAt
   refine Tm_bind (Tm_underlyingP fun d hd=>?_)
   rw[h2] at hd
   simp only[Option.some.injEq] at hd
   subst hd
   exact rfl
 ·trivial
def Tryz.mt(t:TypeId)(s:String):Option FuncId:=if s= "musette/meter.is" then(if t=252 then some 229 else if t=254 then some 257 else if t=255 then some 258 else none) else none
theorem Tryz.mtOK(t:TypeId)(s:String)(f:FuncId)(h:Tryz.mt t s=some f)(c:Value)(w:World):(method (Tryz.prog.types.size+Made.depth) t c s).run Tryz.prog w= .ok (f,c) w:=by
 have hn:Tryz.prog.types.size+Made.depth=(Tryz.prog.types.size+(Made.depth-1))+1:=by
  have:1≤Made.depth:=by decide
  omega
 rw[hn]
 unfold Tryz.mt at h
 split at h
 ·rename_i hs;subst hs
  split at h
  ·rename_i ht;subst ht;simp at h;subst h
   exact method_of (by kernel_rfl) Tryz.underlying252 _ c w
  ·split at h
   ·rename_i ht;subst ht;simp at h;subst h
    exact method_of (by kernel_rfl) Tryz.underlying254 _ c w
   ·split at h
    ·rename_i ht;subst ht;simp at h;subst h
     exact method_of (by kernel_rfl) Tryz.underlying255 _ c w
    ·cases h
 ·cases h
set_option maxRecDepth 200000 in
theorem Tryz.mtOKT(t:TypeId)(s:String)(f:FuncId)(h:Tryz.mt t s=some f)(c:Value):Tm Tryz.prog (method (Tryz.prog.types.size+Made.depth) t c s) fun r=>r.1=f:=by
 have hn:Tryz.prog.types.size+Made.depth=(Tryz.prog.types.size+(Made.depth-1))+1:=by
  have:1≤Made.depth:=by decide
  omega
 rw[hn]
 unfold Tryz.mt at h
 split at h
 ·rename_i hs;subst hs
  split at h
  ·rename_i ht;subst ht;simp at h;subst h
   exact method_tm (by kernel_rfl) Tryz.underlying252 _ c
  ·split at h
   ·rename_i ht;subst ht;simp at h;subst h
    exact method_tm (by kernel_rfl) Tryz.underlying254 _ c
   ·split at h
    ·rename_i ht;subst ht;simp at h;subst h
     exact method_tm (by kernel_rfl) Tryz.underlying255 _ c
    ·cases h
 ·cases h
noncomputable def Tryz.E {S:MC Tryz.prog} (N:Nat) (ord:Nat→List Nat×List (Nat×List Nat)) (fs:FuncId→List AV→Option AV):Env:={P:=Tryz.prog,S:=S,ty:=Tryz.ty,N:=N,mt:=Tryz.mt,ord:=ord,fs:=fs}
theorem Tryz.EN{S:MC Tryz.prog}{N:Nat}{ord:Nat→List Nat×List (Nat×List Nat)}{fs:FuncId→List AV→Option AV}:(Tryz.E (S:=S) N ord fs).N=N:=rfl
theorem Tryz.Emt{S:MC Tryz.prog}{N:Nat}{ord:Nat→List Nat×List (Nat×List Nat)}{fs:FuncId→List AV→Option AV}:(Tryz.E (S:=S) N ord fs).mt=Tryz.mt:=rfl
theorem Tryz.EP{S:MC Tryz.prog}{N:Nat}{ord:Nat→List Nat×List (Nat×List Nat)}{fs:FuncId→List AV→Option AV}:(Tryz.E (S:=S) N ord fs).P=Tryz.prog:=rfl
theorem Tryz.Ety{S:MC Tryz.prog}{N:Nat}{ord:Nat→List Nat×List (Nat×List Nat)}{fs:FuncId→List AV→Option AV}:(Tryz.E (S:=S) N ord fs).ty=Tryz.ty:=rfl
theorem Tryz.Eord{S:MC Tryz.prog}{N:Nat}{ord:Nat→List Nat×List (Nat×List Nat)}{fs:FuncId→List AV→Option AV}:(Tryz.E (S:=S) N ord fs).ord=ord:=rfl
theorem Tryz.Efs{S:MC Tryz.prog}{N:Nat}{ord:Nat→List Nat×List (Nat×List Nat)}{fs:FuncId→List AV→Option AV}:(Tryz.E (S:=S) N ord fs).fs=fs:=rfl
theorem Tryz.mt_count:Tryz.mt 252 "musette/meter.is" = some 229:=rfl
theorem Tryz.mt_beat:Tryz.mt 254 "musette/meter.is" = some 257:=rfl
theorem Tryz.mt_higher:Tryz.mt 255 "musette/meter.is" = some 258:=rfl
set_option maxRecDepth 200000 in
theorem Tryz.envOK{S:MC Tryz.prog}(N:Nat)(ord:Nat→List Nat×List (Nat×List Nat))(fs:FuncId→List AV→Option AV)(h:∀f xs v,fs f xs=some v→PureV S f xs v):EnvOK (Tryz.E (S:=S) N ord fs):=⟨Tryz.tysOK,Tryz.eqsOK,Tryz.mtOK,Tryz.mtOKT,by kernel_rfl,h⟩
def fs0:FuncId→List AV→Option AV:=fun _ _=>none
theorem fs0_ok{S:MC Tryz.prog}:∀f xs v,fs0 f xs=some v→PureV S f xs v:=fun _ _ _ h=>by cases h
theorem Callable.of{P:Program}{f:FuncId}{fn:Func}(h1:P.funcs[f]? = some fn)(h2:fn.body.isNone=false)(h3:(fn.name== "runtime.NumGoroutine")=false):Callable P f:=⟨fn,h1,h3,h2⟩
theorem Tryz.ES_{S:MC Tryz.prog}{N:Nat}{ord:Nat→List Nat×List (Nat×List Nat)}{fs:FuncId→List AV→Option AV}:(Tryz.E (S:=S) N ord fs).S=S:=rfl
attribute [go_sem] Tryz.ES_
theorem PvE{E:Env}(hE:EnvOK E){f:FuncId}{fn:Func}{c:Code}{args:List AV}{v:AV}(hp:Plain v)(kp:Nat→Bool)(hf:E.P.funcs[f]? = some fn)(hb:fn.body=some c)
  (h:∀σ,ev E none 100000 [.code c] ⟨kp,[],number 0 args⟩ σ (retPost E fn.results.toList (Gives σ v)))
  (hN:fn.ntmps=E.N:=by kernel_rfl) (hA:args.length≤E.N:=by simp[Tryz.E]) (h2:fn.body.isNone=false:=by kernel_rfl) (h3:(fn.name== "runtime.NumGoroutine")=false:=by kernel_rfl) (hO:todoOK E [.code c]=true:=by kernel_rfl):PureV E.S f args v:=
 PureV.of_ev hE hp kp hf hb hN hA (Callable.of hf h2 h3) hO h
theorem AcE{E:Env}(hE:EnvOK E){f:FuncId}{fn:Func}{c:Code}{args:List AV}{σ:List AObj}{Q:AV→List AObj→Prop}(kp:Nat→Bool)(hf:E.P.funcs[f]? = some fn)(hb:fn.body=some c)
  (h:ev E none 100000 [.code c] ⟨kp,[],number 0 args⟩ σ (retPost E fn.results.toList Q))
  (hN:fn.ntmps=E.N:=by kernel_rfl) (hA:args.length≤E.N:=by simp[Tryz.E]) (h2:fn.body.isNone=false:=by kernel_rfl) (h3:(fn.name== "runtime.NumGoroutine")=false:=by kernel_rfl) (hO:todoOK E [.code c]=true:=by kernel_rfl):ACalls E.S f args σ Q:=
 ACalls.of_ev hE kp hf hb hN hA (Callable.of hf h2 h3) hO h
end Go.Proofs
