/- The types of the seat, told to the abstract layer. Written by program. -/
import Derived.Test.YtgbdndlmdklefaaGreatEK10
import Derived.Test.YtgbdndlmdklefaaGreatProg
import Derived.KernelRfl
set_option linter.unusedSimpArgs false
set_option linter.unusedVariables false
set_option maxRecDepth 100000
namespace Go.Proofs
open Go Go.Mu
def Tryz.ti1:TI:=⟨1,8,.func,.nilfn,false,false,false⟩
def Tryz.ti2:TI:=⟨1,8,.int .i64,.int .i64 0,false,false,false⟩
def Tryz.ti3:TI:=⟨1,8,.int .i64,.int .i64 0,false,false,false⟩
def Tryz.ti4:TI:=⟨1,1,.bool,.bool false,false,false,false⟩
def Tryz.ti5:TI:=⟨1,1,.int .u8,.int .u8 0,false,false,false⟩
def Tryz.ti6:TI:=⟨1,1,.int .u8,.int .u8 0,false,false,false⟩
def Tryz.ti8:TI:=⟨4,24,.strct [(0,2),(1,3),(2,4),(3,6)],.agg [.int .i64 0,.int .i64 0,.bool false,.int .u8 0],false,false,false⟩
def Tryz.ti9:TI:=⟨1,16,.str,.str ByteArray.empty,false,false,false⟩
def Tryz.ti10:TI:=⟨1,16,.str,.str ByteArray.empty,false,false,false⟩
def Tryz.ti11:TI:=⟨1,16,.str,.str ByteArray.empty,false,false,false⟩
def Tryz.ti12:TI:=⟨1,8,.int .u64,.int .u64 0,false,false,false⟩
def Tryz.ti14:TI:=⟨2,24,.strct [(0,9),(1,12)],.agg [.str ByteArray.empty,.int .u64 0],false,false,false⟩
def Tryz.ti15:TI:=⟨1,8,.ptr 281,.nilptr,false,false,false⟩
def Tryz.ti16:TI:=⟨1,8,.ptr 284,.nilptr,false,false,false⟩
def Tryz.ti17:TI:=⟨1,8,.ptr 292,.nilptr,false,false,false⟩
def Tryz.ti19:TI:=⟨1,8,.strct [(0,17)],.agg [.nilptr],false,false,false⟩
def Tryz.ti22:TI:=⟨1,24,.slice 3,.list .full 0 [],false,false,false⟩
def Tryz.ti23:TI:=⟨1,8,.ptr 116,.nilptr,false,false,false⟩
def Tryz.ti26:TI:=⟨2,16,.strct [(0,3),(1,3)],.agg [.int .i64 0,.int .i64 0],true,false,false⟩
def Tryz.ti27:TI:=⟨1,24,.slice 67,.list .full 0 [],false,false,false⟩
def Tryz.ti28:TI:=⟨1,24,.slice 51,.list .full 0 [],false,false,false⟩
def Tryz.ti30:TI:=⟨6,80,.strct [(0,3),(1,3),(2,26),(4,27),(5,28)],.agg [.int .i64 0,.int .i64 0,.int .i64 0,.int .i64 0,.list .full 0 [],.list .full 0 []],false,false,false⟩
def Tryz.ti32:TI:=⟨2,48,.strct [(0,22),(1,22)],.agg [.list .full 0 [],.list .full 0 []],false,false,false⟩
def Tryz.ti36:TI:=⟨1,24,.slice 22,.list .full 0 [],false,false,false⟩
def Tryz.ti37:TI:=⟨1,8,.int .i64,.int .i64 0,false,false,false⟩
def Tryz.ti46:TI:=⟨1,24,.slice 26,.list .full 0 [],false,false,false⟩
def Tryz.ti47:TI:=⟨1,24,.slice 105,.list .full 0 [],false,false,false⟩
def Tryz.ti49:TI:=⟨3,56,.strct [(0,3),(1,46),(2,47)],.agg [.int .i64 0,.list .full 0 [],.list .full 0 []],false,false,false⟩
def Tryz.ti51:TI:=⟨6,80,.strct [(0,3),(1,3),(2,3),(3,49)],.agg [.int .i64 0,.int .i64 0,.int .i64 0,.int .i64 0,.list .full 0 [],.list .full 0 []],false,false,false⟩
def Tryz.ti54:TI:=⟨1,24,.slice 30,.list .full 0 [],false,false,false⟩
def Tryz.ti64:TI:=⟨1,8,.func,.nilfn,false,false,false⟩
def Tryz.ti67:TI:=⟨2,16,.strct [(0,3),(1,3)],.agg [.int .i64 0,.int .i64 0],true,false,false⟩
def Tryz.ti105:TI:=⟨6,48,.strct [(0,3),(1,3),(2,3),(3,3),(4,26)],.agg [.int .i64 0,.int .i64 0,.int .i64 0,.int .i64 0,.int .i64 0,.int .i64 0],true,false,false⟩
def Tryz.ti109:TI:=⟨6,48,.strct [(0,26),(2,26),(4,26)],.agg [.int .i64 0,.int .i64 0,.int .i64 0,.int .i64 0,.int .i64 0,.int .i64 0],false,false,false⟩
def Tryz.ti111:TI:=⟨9,72,.strct [(0,26),(2,26),(4,26),(6,26),(8,3)],.agg [.int .i64 0,.int .i64 0,.int .i64 0,.int .i64 0,.int .i64 0,.int .i64 0,.int .i64 0,.int .i64 0,.int .i64 0],false,false,false⟩
def Tryz.ti113:TI:=⟨18,160,.strct [(0,109),(6,111),(15,46),(16,3),(17,3)],.agg [.int .i64 0,.int .i64 0,.int .i64 0,.int .i64 0,.int .i64 0,.int .i64 0,.int .i64 0,.int .i64 0,.int .i64 0,.int .i64 0,.int .i64 0,.int .i64 0,.int .i64 0,.int .i64 0,.int .i64 0,.list .full 0 [],.int .i64 0,.int .i64 0],false,false,false⟩
def Tryz.ti114:TI:=⟨1,8,.int .u64,.int .u64 0,false,false,false⟩
def Tryz.ti116:TI:=⟨1,8,.strct [(0,114)],.agg [.int .u64 0],false,false,false⟩
def Tryz.ti117:TI:=⟨1,8,.int .u64,.int .u64 0,false,false,false⟩
def Tryz.ti119:TI:=⟨7,104,.strct [(0,30),(6,36)],.agg [.int .i64 0,.int .i64 0,.int .i64 0,.int .i64 0,.list .full 0 [],.list .full 0 [],.list .full 0 []],false,false,false⟩
def Tryz.ti120:TI:=⟨1,8,.map 127 4,.nilmap,false,false,false⟩
def Tryz.ti127:TI:=⟨4,32,.arr 4 3,.agg [.int .i64 0,.int .i64 0,.int .i64 0,.int .i64 0],true,false,true⟩
def Tryz.ti144:TI:=⟨1,8,.int .u64,.int .u64 0,false,false,false⟩
def Tryz.ti146:TI:=⟨1,24,.slice 127,.list .full 0 [],false,false,false⟩
def Tryz.ti149:TI:=⟨1,8,.ptr 51,.nilptr,false,false,false⟩
def Tryz.ti164:TI:=⟨1,24,.slice 169,.list .full 0 [],false,false,false⟩
def Tryz.ti169:TI:=⟨3,24,.arr 3 3,.agg [.int .i64 0,.int .i64 0,.int .i64 0],false,false,false⟩
def Tryz.ti170:TI:=⟨1,8,.func,.nilfn,false,false,false⟩
def Tryz.ti179:TI:=⟨1,24,.slice 37,.list .full 0 [],false,false,false⟩
def Tryz.ti181:TI:=⟨1,8,.map 144 4,.nilmap,false,false,false⟩
def Tryz.ti184:TI:=⟨1,8,.func,.nilfn,false,false,false⟩
def Tryz.ti189:TI:=⟨1,8,.func,.nilfn,false,false,false⟩
def Tryz.ti190:TI:=⟨1,8,.func,.nilfn,false,false,false⟩
def Tryz.ti192:TI:=⟨1,8,.func,.nilfn,false,false,false⟩
def Tryz.ti195:TI:=⟨1,8,.func,.nilfn,false,false,false⟩
def Tryz.ti197:TI:=⟨1,8,.func,.nilfn,false,false,false⟩
def Tryz.ti198:TI:=⟨1,8,.func,.nilfn,false,false,false⟩
def Tryz.ti202:TI:=⟨1,8,.map 3 4,.nilmap,false,false,false⟩
def Tryz.ti203:TI:=⟨1,8,.func,.nilfn,false,false,false⟩
def Tryz.ti205:TI:=⟨21,184,.strct [(0,113),(18,26),(20,203)],.agg [.int .i64 0,.int .i64 0,.int .i64 0,.int .i64 0,.int .i64 0,.int .i64 0,.int .i64 0,.int .i64 0,.int .i64 0,.int .i64 0,.int .i64 0,.int .i64 0,.int .i64 0,.int .i64 0,.int .i64 0,.list .full 0 [],.int .i64 0,.int .i64 0,.int .i64 0,.int .i64 0,.nilfn],false,false,false⟩
def Tryz.ti210:TI:=⟨5,40,.strct [(0,26),(2,3),(3,3),(4,3)],.agg [.int .i64 0,.int .i64 0,.int .i64 0,.int .i64 0,.int .i64 0],false,false,true⟩
def Tryz.ti213:TI:=⟨1,16,.iface,.niliface,false,false,false⟩
def Tryz.ti215:TI:=⟨1,8,.map 3 164,.nilmap,false,false,false⟩
def Tryz.ti225:TI:=⟨1,8,.int .i64,.int .i64 0,false,false,false⟩
def Tryz.ti232:TI:=⟨1,4,.int .u32,.int .u32 0,false,false,false⟩
def Tryz.ti234:TI:=⟨1,8,.chan,.chan none,false,false,false⟩
def Tryz.ti236:TI:=⟨3,40,.strct [(0,3),(1,22),(2,37)],.agg [.int .i64 0,.list .full 0 [],.int .i64 0],false,false,false⟩
def Tryz.ti239:TI:=⟨1,8,.func,.nilfn,false,false,false⟩
def Tryz.ti242:TI:=⟨1,24,.slice 213,.list .full 0 [],false,false,false⟩
def Tryz.ti243:TI:=⟨1,8,.func,.nilfn,false,false,false⟩
def Tryz.ti244:TI:=⟨1,8,.func,.nilfn,false,false,false⟩
def Tryz.ti245:TI:=⟨1,8,.map 210 4,.nilmap,false,false,false⟩
def Tryz.ti247:TI:=⟨1,8,.func,.nilfn,false,false,false⟩
def Tryz.ti252:TI:=⟨7,56,.strct [(0,105),(6,3)],.agg [.int .i64 0,.int .i64 0,.int .i64 0,.int .i64 0,.int .i64 0,.int .i64 0,.int .i64 0],false,false,false⟩
def Tryz.ti254:TI:=⟨6,48,.strct [(0,105)],.agg [.int .i64 0,.int .i64 0,.int .i64 0,.int .i64 0,.int .i64 0,.int .i64 0],false,false,false⟩
def Tryz.ti255:TI:=⟨6,48,.strct [(0,105)],.agg [.int .i64 0,.int .i64 0,.int .i64 0,.int .i64 0,.int .i64 0,.int .i64 0],false,false,false⟩
def Tryz.ti262:TI:=⟨1,8,.int .u64,.int .u64 0,false,false,false⟩
def Tryz.ti265:TI:=⟨1,8,.ptr 3,.nilptr,false,false,false⟩
def Tryz.ti268:TI:=⟨1,8,.func,.nilfn,false,false,false⟩
def Tryz.ti270:TI:=⟨15,120,.strct [(0,109),(6,111)],.agg [.int .i64 0,.int .i64 0,.int .i64 0,.int .i64 0,.int .i64 0,.int .i64 0,.int .i64 0,.int .i64 0,.int .i64 0,.int .i64 0,.int .i64 0,.int .i64 0,.int .i64 0,.int .i64 0,.int .i64 0],false,false,false⟩
def Tryz.ti275:TI:=⟨1,8,.ptr 262,.nilptr,false,false,false⟩
def Tryz.ti281:TI:=⟨4,40,.strct [(0,17),(1,17),(2,17),(3,9)],.agg [.nilptr,.nilptr,.nilptr,.str ByteArray.empty],false,false,false⟩
def Tryz.ti282:TI:=⟨0,0,.arr 0 16,.agg [],false,false,false⟩
def Tryz.ti284:TI:=⟨0,0,.strct [(0,282)],.agg [],false,false,false⟩
def Tryz.ti285:TI:=⟨1,1,.int .u8,.int .u8 0,false,false,false⟩
def Tryz.ti286:TI:=⟨1,1,.int .u8,.int .u8 0,false,false,false⟩
def Tryz.ti287:TI:=⟨1,8,.func,.nilfn,false,false,false⟩
def Tryz.ti288:TI:=⟨1,8,.ptr 5,.nilptr,false,false,false⟩
def Tryz.ti289:TI:=⟨1,4,.int .i32,.int .i32 0,false,false,false⟩
def Tryz.ti290:TI:=⟨1,4,.int .i32,.int .i32 0,false,false,false⟩
def Tryz.ti292:TI:=⟨11,48,.strct [(0,12),(1,12),(2,232),(3,285),(4,5),(5,5),(6,286),(7,287),(8,288),(9,289),(10,290)],.agg [.int .u64 0,.int .u64 0,.int .u32 0,.int .u8 0,.int .u8 0,.int .u8 0,.int .u8 0,.nilfn,.nilptr,.int .i32 0,.int .i32 0],false,false,false⟩
def Tryz.tyl:List (Nat×TI):=[(1,Tryz.ti1),(2,Tryz.ti2),(3,Tryz.ti3),(4,Tryz.ti4),(5,Tryz.ti5),(6,Tryz.ti6),(8,Tryz.ti8),(9,Tryz.ti9),(10,Tryz.ti10),(11,Tryz.ti11),(12,Tryz.ti12),(14,Tryz.ti14),(15,Tryz.ti15),(16,Tryz.ti16),(17,Tryz.ti17),(19,Tryz.ti19),(22,Tryz.ti22),(23,Tryz.ti23),(26,Tryz.ti26),(27,Tryz.ti27),(28,Tryz.ti28),(30,Tryz.ti30),(32,Tryz.ti32),(36,Tryz.ti36),(37,Tryz.ti37),(46,Tryz.ti46),(47,Tryz.ti47),(49,Tryz.ti49),(51,Tryz.ti51),(54,Tryz.ti54),(64,Tryz.ti64),(67,Tryz.ti67),(105,Tryz.ti105),(109,Tryz.ti109),(111,Tryz.ti111),(113,Tryz.ti113),(114,Tryz.ti114),(116,Tryz.ti116),(117,Tryz.ti117),(119,Tryz.ti119),(120,Tryz.ti120),(127,Tryz.ti127),(144,Tryz.ti144),(146,Tryz.ti146),(149,Tryz.ti149),(164,Tryz.ti164),(169,Tryz.ti169),(170,Tryz.ti170),(179,Tryz.ti179),(181,Tryz.ti181),(184,Tryz.ti184),(189,Tryz.ti189),(190,Tryz.ti190),(192,Tryz.ti192),(195,Tryz.ti195),(197,Tryz.ti197),(198,Tryz.ti198),(202,Tryz.ti202),(203,Tryz.ti203),(205,Tryz.ti205),(210,Tryz.ti210),(213,Tryz.ti213),(215,Tryz.ti215),(225,Tryz.ti225),(232,Tryz.ti232),(234,Tryz.ti234),(236,Tryz.ti236),(239,Tryz.ti239),(242,Tryz.ti242),(243,Tryz.ti243),(244,Tryz.ti244),(245,Tryz.ti245),(247,Tryz.ti247),(252,Tryz.ti252),(254,Tryz.ti254),(255,Tryz.ti255),(262,Tryz.ti262),(265,Tryz.ti265),(268,Tryz.ti268),(270,Tryz.ti270),(275,Tryz.ti275),(281,Tryz.ti281),(282,Tryz.ti282),(284,Tryz.ti284),(285,Tryz.ti285),(286,Tryz.ti286),(287,Tryz.ti287),(288,Tryz.ti288),(289,Tryz.ti289),(290,Tryz.ti290),(292,Tryz.ti292)]
def Tryz.ty(t:Nat):TI:=tyOf Tryz.tyl t
theorem Tryz.ty1:Tryz.ty 1=⟨1,8,.func,.nilfn,false,false,false⟩:=rfl
theorem Tryz.ty2:Tryz.ty 2=⟨1,8,.int .i64,.int .i64 0,false,false,false⟩:=rfl
theorem Tryz.ty3:Tryz.ty 3=⟨1,8,.int .i64,.int .i64 0,false,false,false⟩:=rfl
theorem Tryz.ty4:Tryz.ty 4=⟨1,1,.bool,.bool false,false,false,false⟩:=rfl
theorem Tryz.ty5:Tryz.ty 5=⟨1,1,.int .u8,.int .u8 0,false,false,false⟩:=rfl
theorem Tryz.ty6:Tryz.ty 6=⟨1,1,.int .u8,.int .u8 0,false,false,false⟩:=rfl
theorem Tryz.ty8:Tryz.ty 8=⟨4,24,.strct [(0,2),(1,3),(2,4),(3,6)],.agg [.int .i64 0,.int .i64 0,.bool false,.int .u8 0],false,false,false⟩:=rfl
theorem Tryz.ty9:Tryz.ty 9=⟨1,16,.str,.str ByteArray.empty,false,false,false⟩:=rfl
theorem Tryz.ty10:Tryz.ty 10=⟨1,16,.str,.str ByteArray.empty,false,false,false⟩:=rfl
theorem Tryz.ty11:Tryz.ty 11=⟨1,16,.str,.str ByteArray.empty,false,false,false⟩:=rfl
theorem Tryz.ty12:Tryz.ty 12=⟨1,8,.int .u64,.int .u64 0,false,false,false⟩:=rfl
theorem Tryz.ty14:Tryz.ty 14=⟨2,24,.strct [(0,9),(1,12)],.agg [.str ByteArray.empty,.int .u64 0],false,false,false⟩:=rfl
theorem Tryz.ty15:Tryz.ty 15=⟨1,8,.ptr 281,.nilptr,false,false,false⟩:=rfl
theorem Tryz.ty16:Tryz.ty 16=⟨1,8,.ptr 284,.nilptr,false,false,false⟩:=rfl
theorem Tryz.ty17:Tryz.ty 17=⟨1,8,.ptr 292,.nilptr,false,false,false⟩:=rfl
theorem Tryz.ty19:Tryz.ty 19=⟨1,8,.strct [(0,17)],.agg [.nilptr],false,false,false⟩:=rfl
theorem Tryz.ty22:Tryz.ty 22=⟨1,24,.slice 3,.list .full 0 [],false,false,false⟩:=rfl
theorem Tryz.ty23:Tryz.ty 23=⟨1,8,.ptr 116,.nilptr,false,false,false⟩:=rfl
theorem Tryz.ty26:Tryz.ty 26=⟨2,16,.strct [(0,3),(1,3)],.agg [.int .i64 0,.int .i64 0],true,false,false⟩:=rfl
theorem Tryz.ty27:Tryz.ty 27=⟨1,24,.slice 67,.list .full 0 [],false,false,false⟩:=rfl
theorem Tryz.ty28:Tryz.ty 28=⟨1,24,.slice 51,.list .full 0 [],false,false,false⟩:=rfl
theorem Tryz.ty30:Tryz.ty 30=⟨6,80,.strct [(0,3),(1,3),(2,26),(4,27),(5,28)],.agg [.int .i64 0,.int .i64 0,.int .i64 0,.int .i64 0,.list .full 0 [],.list .full 0 []],false,false,false⟩:=rfl
theorem Tryz.ty32:Tryz.ty 32=⟨2,48,.strct [(0,22),(1,22)],.agg [.list .full 0 [],.list .full 0 []],false,false,false⟩:=rfl
theorem Tryz.ty36:Tryz.ty 36=⟨1,24,.slice 22,.list .full 0 [],false,false,false⟩:=rfl
theorem Tryz.ty37:Tryz.ty 37=⟨1,8,.int .i64,.int .i64 0,false,false,false⟩:=rfl
theorem Tryz.ty46:Tryz.ty 46=⟨1,24,.slice 26,.list .full 0 [],false,false,false⟩:=rfl
theorem Tryz.ty47:Tryz.ty 47=⟨1,24,.slice 105,.list .full 0 [],false,false,false⟩:=rfl
theorem Tryz.ty49:Tryz.ty 49=⟨3,56,.strct [(0,3),(1,46),(2,47)],.agg [.int .i64 0,.list .full 0 [],.list .full 0 []],false,false,false⟩:=rfl
theorem Tryz.ty51:Tryz.ty 51=⟨6,80,.strct [(0,3),(1,3),(2,3),(3,49)],.agg [.int .i64 0,.int .i64 0,.int .i64 0,.int .i64 0,.list .full 0 [],.list .full 0 []],false,false,false⟩:=rfl
theorem Tryz.ty54:Tryz.ty 54=⟨1,24,.slice 30,.list .full 0 [],false,false,false⟩:=rfl
theorem Tryz.ty64:Tryz.ty 64=⟨1,8,.func,.nilfn,false,false,false⟩:=rfl
theorem Tryz.ty67:Tryz.ty 67=⟨2,16,.strct [(0,3),(1,3)],.agg [.int .i64 0,.int .i64 0],true,false,false⟩:=rfl
theorem Tryz.ty105:Tryz.ty 105=⟨6,48,.strct [(0,3),(1,3),(2,3),(3,3),(4,26)],.agg [.int .i64 0,.int .i64 0,.int .i64 0,.int .i64 0,.int .i64 0,.int .i64 0],true,false,false⟩:=rfl
theorem Tryz.ty109:Tryz.ty 109=⟨6,48,.strct [(0,26),(2,26),(4,26)],.agg [.int .i64 0,.int .i64 0,.int .i64 0,.int .i64 0,.int .i64 0,.int .i64 0],false,false,false⟩:=rfl
theorem Tryz.ty111:Tryz.ty 111=⟨9,72,.strct [(0,26),(2,26),(4,26),(6,26),(8,3)],.agg [.int .i64 0,.int .i64 0,.int .i64 0,.int .i64 0,.int .i64 0,.int .i64 0,.int .i64 0,.int .i64 0,.int .i64 0],false,false,false⟩:=rfl
theorem Tryz.ty113:Tryz.ty 113=⟨18,160,.strct [(0,109),(6,111),(15,46),(16,3),(17,3)],.agg [.int .i64 0,.int .i64 0,.int .i64 0,.int .i64 0,.int .i64 0,.int .i64 0,.int .i64 0,.int .i64 0,.int .i64 0,.int .i64 0,.int .i64 0,.int .i64 0,.int .i64 0,.int .i64 0,.int .i64 0,.list .full 0 [],.int .i64 0,.int .i64 0],false,false,false⟩:=rfl
theorem Tryz.ty114:Tryz.ty 114=⟨1,8,.int .u64,.int .u64 0,false,false,false⟩:=rfl
theorem Tryz.ty116:Tryz.ty 116=⟨1,8,.strct [(0,114)],.agg [.int .u64 0],false,false,false⟩:=rfl
theorem Tryz.ty117:Tryz.ty 117=⟨1,8,.int .u64,.int .u64 0,false,false,false⟩:=rfl
theorem Tryz.ty119:Tryz.ty 119=⟨7,104,.strct [(0,30),(6,36)],.agg [.int .i64 0,.int .i64 0,.int .i64 0,.int .i64 0,.list .full 0 [],.list .full 0 [],.list .full 0 []],false,false,false⟩:=rfl
theorem Tryz.ty120:Tryz.ty 120=⟨1,8,.map 127 4,.nilmap,false,false,false⟩:=rfl
theorem Tryz.ty127:Tryz.ty 127=⟨4,32,.arr 4 3,.agg [.int .i64 0,.int .i64 0,.int .i64 0,.int .i64 0],true,false,true⟩:=rfl
theorem Tryz.ty144:Tryz.ty 144=⟨1,8,.int .u64,.int .u64 0,false,false,false⟩:=rfl
theorem Tryz.ty146:Tryz.ty 146=⟨1,24,.slice 127,.list .full 0 [],false,false,false⟩:=rfl
theorem Tryz.ty149:Tryz.ty 149=⟨1,8,.ptr 51,.nilptr,false,false,false⟩:=rfl
theorem Tryz.ty164:Tryz.ty 164=⟨1,24,.slice 169,.list .full 0 [],false,false,false⟩:=rfl
theorem Tryz.ty169:Tryz.ty 169=⟨3,24,.arr 3 3,.agg [.int .i64 0,.int .i64 0,.int .i64 0],false,false,false⟩:=rfl
theorem Tryz.ty170:Tryz.ty 170=⟨1,8,.func,.nilfn,false,false,false⟩:=rfl
theorem Tryz.ty179:Tryz.ty 179=⟨1,24,.slice 37,.list .full 0 [],false,false,false⟩:=rfl
theorem Tryz.ty181:Tryz.ty 181=⟨1,8,.map 144 4,.nilmap,false,false,false⟩:=rfl
theorem Tryz.ty184:Tryz.ty 184=⟨1,8,.func,.nilfn,false,false,false⟩:=rfl
theorem Tryz.ty189:Tryz.ty 189=⟨1,8,.func,.nilfn,false,false,false⟩:=rfl
theorem Tryz.ty190:Tryz.ty 190=⟨1,8,.func,.nilfn,false,false,false⟩:=rfl
theorem Tryz.ty192:Tryz.ty 192=⟨1,8,.func,.nilfn,false,false,false⟩:=rfl
theorem Tryz.ty195:Tryz.ty 195=⟨1,8,.func,.nilfn,false,false,false⟩:=rfl
theorem Tryz.ty197:Tryz.ty 197=⟨1,8,.func,.nilfn,false,false,false⟩:=rfl
theorem Tryz.ty198:Tryz.ty 198=⟨1,8,.func,.nilfn,false,false,false⟩:=rfl
theorem Tryz.ty202:Tryz.ty 202=⟨1,8,.map 3 4,.nilmap,false,false,false⟩:=rfl
theorem Tryz.ty203:Tryz.ty 203=⟨1,8,.func,.nilfn,false,false,false⟩:=rfl
theorem Tryz.ty205:Tryz.ty 205=⟨21,184,.strct [(0,113),(18,26),(20,203)],.agg [.int .i64 0,.int .i64 0,.int .i64 0,.int .i64 0,.int .i64 0,.int .i64 0,.int .i64 0,.int .i64 0,.int .i64 0,.int .i64 0,.int .i64 0,.int .i64 0,.int .i64 0,.int .i64 0,.int .i64 0,.list .full 0 [],.int .i64 0,.int .i64 0,.int .i64 0,.int .i64 0,.nilfn],false,false,false⟩:=rfl
theorem Tryz.ty210:Tryz.ty 210=⟨5,40,.strct [(0,26),(2,3),(3,3),(4,3)],.agg [.int .i64 0,.int .i64 0,.int .i64 0,.int .i64 0,.int .i64 0],false,false,true⟩:=rfl
theorem Tryz.ty213:Tryz.ty 213=⟨1,16,.iface,.niliface,false,false,false⟩:=rfl
theorem Tryz.ty215:Tryz.ty 215=⟨1,8,.map 3 164,.nilmap,false,false,false⟩:=rfl
theorem Tryz.ty225:Tryz.ty 225=⟨1,8,.int .i64,.int .i64 0,false,false,false⟩:=rfl
theorem Tryz.ty232:Tryz.ty 232=⟨1,4,.int .u32,.int .u32 0,false,false,false⟩:=rfl
theorem Tryz.ty234:Tryz.ty 234=⟨1,8,.chan,.chan none,false,false,false⟩:=rfl
theorem Tryz.ty236:Tryz.ty 236=⟨3,40,.strct [(0,3),(1,22),(2,37)],.agg [.int .i64 0,.list .full 0 [],.int .i64 0],false,false,false⟩:=rfl
theorem Tryz.ty239:Tryz.ty 239=⟨1,8,.func,.nilfn,false,false,false⟩:=rfl
theorem Tryz.ty242:Tryz.ty 242=⟨1,24,.slice 213,.list .full 0 [],false,false,false⟩:=rfl
theorem Tryz.ty243:Tryz.ty 243=⟨1,8,.func,.nilfn,false,false,false⟩:=rfl
theorem Tryz.ty244:Tryz.ty 244=⟨1,8,.func,.nilfn,false,false,false⟩:=rfl
theorem Tryz.ty245:Tryz.ty 245=⟨1,8,.map 210 4,.nilmap,false,false,false⟩:=rfl
theorem Tryz.ty247:Tryz.ty 247=⟨1,8,.func,.nilfn,false,false,false⟩:=rfl
theorem Tryz.ty252:Tryz.ty 252=⟨7,56,.strct [(0,105),(6,3)],.agg [.int .i64 0,.int .i64 0,.int .i64 0,.int .i64 0,.int .i64 0,.int .i64 0,.int .i64 0],false,false,false⟩:=rfl
theorem Tryz.ty254:Tryz.ty 254=⟨6,48,.strct [(0,105)],.agg [.int .i64 0,.int .i64 0,.int .i64 0,.int .i64 0,.int .i64 0,.int .i64 0],false,false,false⟩:=rfl
theorem Tryz.ty255:Tryz.ty 255=⟨6,48,.strct [(0,105)],.agg [.int .i64 0,.int .i64 0,.int .i64 0,.int .i64 0,.int .i64 0,.int .i64 0],false,false,false⟩:=rfl
theorem Tryz.ty262:Tryz.ty 262=⟨1,8,.int .u64,.int .u64 0,false,false,false⟩:=rfl
theorem Tryz.ty265:Tryz.ty 265=⟨1,8,.ptr 3,.nilptr,false,false,false⟩:=rfl
theorem Tryz.ty268:Tryz.ty 268=⟨1,8,.func,.nilfn,false,false,false⟩:=rfl
theorem Tryz.ty270:Tryz.ty 270=⟨15,120,.strct [(0,109),(6,111)],.agg [.int .i64 0,.int .i64 0,.int .i64 0,.int .i64 0,.int .i64 0,.int .i64 0,.int .i64 0,.int .i64 0,.int .i64 0,.int .i64 0,.int .i64 0,.int .i64 0,.int .i64 0,.int .i64 0,.int .i64 0],false,false,false⟩:=rfl
theorem Tryz.ty275:Tryz.ty 275=⟨1,8,.ptr 262,.nilptr,false,false,false⟩:=rfl
theorem Tryz.ty281:Tryz.ty 281=⟨4,40,.strct [(0,17),(1,17),(2,17),(3,9)],.agg [.nilptr,.nilptr,.nilptr,.str ByteArray.empty],false,false,false⟩:=rfl
theorem Tryz.ty282:Tryz.ty 282=⟨0,0,.arr 0 16,.agg [],false,false,false⟩:=rfl
theorem Tryz.ty284:Tryz.ty 284=⟨0,0,.strct [(0,282)],.agg [],false,false,false⟩:=rfl
theorem Tryz.ty285:Tryz.ty 285=⟨1,1,.int .u8,.int .u8 0,false,false,false⟩:=rfl
theorem Tryz.ty286:Tryz.ty 286=⟨1,1,.int .u8,.int .u8 0,false,false,false⟩:=rfl
theorem Tryz.ty287:Tryz.ty 287=⟨1,8,.func,.nilfn,false,false,false⟩:=rfl
theorem Tryz.ty288:Tryz.ty 288=⟨1,8,.ptr 5,.nilptr,false,false,false⟩:=rfl
theorem Tryz.ty289:Tryz.ty 289=⟨1,4,.int .i32,.int .i32 0,false,false,false⟩:=rfl
theorem Tryz.ty290:Tryz.ty 290=⟨1,4,.int .i32,.int .i32 0,false,false,false⟩:=rfl
theorem Tryz.ty292:Tryz.ty 292=⟨11,48,.strct [(0,12),(1,12),(2,232),(3,285),(4,5),(5,5),(6,286),(7,287),(8,288),(9,289),(10,290)],.agg [.int .u64 0,.int .u64 0,.int .u32 0,.int .u8 0,.int .u8 0,.int .u8 0,.int .u8 0,.nilfn,.nilptr,.int .i32 0,.int .i32 0],false,false,false⟩:=rfl
theorem tk{t:Nat}{i:TI}{d:TypeDesc}(h4:Tryz.prog.underlying t=some d)(h5:KdOK d i.kd)(h1:(Tryz.prog.info? t).map (fun i=>(i.size,i.bytes))=some (i.sz,i.bytes):=by kernel_rfl)(h2:((Tryz.prog.info? t).bind (·.zero)).bind ofVal=some i.zero:=by kernel_rfl)(h3:i.zero.flat=true:=by rfl):TyOK Tryz.prog t i:=TyOK.of d h1 h2 h3 h4 h5
theorem Tryz.tysOK:TysOK Tryz.prog Tryz.ty:=tys_of (by
 simp only[Tryz.tyl,List.forall_mem_cons,List.not_mem_nil,false_implies,implies_true,and_true]
 exact⟨tk Tryz.underlying1 ⟨_,_,_,rfl⟩,tk Tryz.underlying2 rfl,tk Tryz.underlying3 rfl,tk Tryz.underlying4 rfl,tk Tryz.underlying5 rfl,tk Tryz.underlying6 rfl,tk Tryz.underlying8 ⟨_,rfl,rfl⟩,tk Tryz.underlying9 rfl,tk Tryz.underlying10 rfl,tk Tryz.underlying11 rfl,tk Tryz.underlying12 rfl,tk Tryz.underlying14 ⟨_,rfl,rfl⟩,tk Tryz.underlying15 rfl,tk Tryz.underlying16 rfl,tk Tryz.underlying17 rfl,tk Tryz.underlying19 ⟨_,rfl,rfl⟩,tk Tryz.underlying22 rfl,tk Tryz.underlying23 rfl,tk Tryz.underlying26 ⟨_,rfl,rfl⟩,tk Tryz.underlying27 rfl,tk Tryz.underlying28 rfl,tk Tryz.underlying30 ⟨_,rfl,rfl⟩,tk Tryz.underlying32 ⟨_,rfl,rfl⟩,tk Tryz.underlying36 rfl,tk Tryz.underlying37 rfl,tk Tryz.underlying46 rfl,tk Tryz.underlying47 rfl,tk Tryz.underlying49 ⟨_,rfl,rfl⟩,tk Tryz.underlying51 ⟨_,rfl,rfl⟩,tk Tryz.underlying54 rfl,tk Tryz.underlying64 ⟨_,_,_,rfl⟩,tk Tryz.underlying67 ⟨_,rfl,rfl⟩,tk Tryz.underlying105 ⟨_,rfl,rfl⟩,tk Tryz.underlying109 ⟨_,rfl,rfl⟩,tk Tryz.underlying111 ⟨_,rfl,rfl⟩,tk Tryz.underlying113 ⟨_,rfl,rfl⟩,tk Tryz.underlying114 rfl,tk Tryz.underlying116 ⟨_,rfl,rfl⟩,tk Tryz.underlying117 rfl,tk Tryz.underlying119 ⟨_,rfl,rfl⟩,tk Tryz.underlying120 rfl,tk Tryz.underlying127 rfl,tk Tryz.underlying144 rfl,tk Tryz.underlying146 rfl,tk Tryz.underlying149 rfl,tk Tryz.underlying164 rfl,tk Tryz.underlying169 rfl,tk Tryz.underlying170 ⟨_,_,_,rfl⟩,tk Tryz.underlying179 rfl,tk Tryz.underlying181 rfl,tk Tryz.underlying184 ⟨_,_,_,rfl⟩,tk Tryz.underlying189 ⟨_,_,_,rfl⟩,tk Tryz.underlying190 ⟨_,_,_,rfl⟩,tk Tryz.underlying192 ⟨_,_,_,rfl⟩,tk Tryz.underlying195 ⟨_,_,_,rfl⟩,tk Tryz.underlying197 ⟨_,_,_,rfl⟩,tk Tryz.underlying198 ⟨_,_,_,rfl⟩,tk Tryz.underlying202 rfl,tk Tryz.underlying203 ⟨_,_,_,rfl⟩,tk Tryz.underlying205 ⟨_,rfl,rfl⟩,tk Tryz.underlying210 ⟨_,rfl,rfl⟩,tk Tryz.underlying213 ⟨_,rfl⟩,tk Tryz.underlying215 rfl,tk Tryz.underlying225 rfl,tk Tryz.underlying232 rfl,tk Tryz.underlying234 ⟨_,_,rfl⟩,tk Tryz.underlying236 ⟨_,rfl,rfl⟩,tk Tryz.underlying239 ⟨_,_,_,rfl⟩,tk Tryz.underlying242 rfl,tk Tryz.underlying243 ⟨_,_,_,rfl⟩,tk Tryz.underlying244 ⟨_,_,_,rfl⟩,tk Tryz.underlying245 rfl,tk Tryz.underlying247 ⟨_,_,_,rfl⟩,tk Tryz.underlying252 ⟨_,rfl,rfl⟩,tk Tryz.underlying254 ⟨_,rfl,rfl⟩,tk Tryz.underlying255 ⟨_,rfl,rfl⟩,tk Tryz.underlying262 rfl,tk Tryz.underlying265 rfl,tk Tryz.underlying268 ⟨_,_,_,rfl⟩,tk Tryz.underlying270 ⟨_,rfl,rfl⟩,tk Tryz.underlying275 rfl,tk Tryz.underlying281 ⟨_,rfl,rfl⟩,tk Tryz.underlying282 rfl,tk Tryz.underlying284 ⟨_,rfl,rfl⟩,tk Tryz.underlying285 rfl,tk Tryz.underlying286 rfl,tk Tryz.underlying287 ⟨_,_,_,rfl⟩,tk Tryz.underlying288 rfl,tk Tryz.underlying289 rfl,tk Tryz.underlying290 rfl,tk Tryz.underlying292 ⟨_,rfl,rfl⟩⟩)
def Tryz.ord6:Nat→List Nat×List (Nat×List Nat)
 | 10=>([0,1,0,0,12,28,63,127,255,511,511,2047,4095,8191,16383,16383,65535,131071,262143,524287,1048575,1048575,1048575,7340031,15728639,33554431,67108863,134217727],[(0,[]),(2,[]),(3,[]),(4,[]),(5,[]),(1,[5]),(6,[]),(7,[]),(8,[]),(9,[]),(10,[]),(11,[]),(12,[]),(13,[]),(14,[]),(15,[]),(16,[]),(17,[]),(18,[]),(19,[]),(20,[]),(21,[]),(22,[]),(23,[]),(24,[]),(25,[]),(26,[]),(27,[])])
 | _=>([],[])
def Tryz.ord16:Nat→List Nat×List (Nat×List Nat)
 | 11=>([0,0,3,7,0,31,63,127,127,0,767,2047],[(0,[]),(1,[]),(2,[]),(3,[]),(4,[]),(5,[]),(6,[]),(7,[]),(8,[]),(9,[]),(10,[]),(11,[])])
 | 12=>([0,0,3,7,15,15,63,127,255,511,511,2047,4095,8191,16383,16383,65535,131071,262143,524287,524287,2097151,4194303,8388607,16777215,33554431,33554431,33554431,234881023,503316479,1073741823,2147483647,4294967295],[(0,[]),(1,[]),(2,[]),(3,[]),(4,[]),(5,[]),(6,[]),(7,[]),(8,[]),(9,[]),(10,[]),(11,[]),(12,[]),(13,[]),(14,[]),(15,[]),(16,[]),(17,[]),(18,[]),(19,[]),(20,[]),(21,[]),(22,[]),(23,[]),(24,[]),(25,[]),(26,[]),(27,[]),(28,[]),(29,[]),(30,[]),(31,[]),(32,[])])
 | _=>([],[])
def Tryz.ord19:Nat→List Nat×List (Nat×List Nat)
 | 5=>([0,0,2,6,14,0,0,96,224,480,1022,2046,4095,8191,16383],[(0,[]),(1,[]),(2,[]),(3,[]),(4,[]),(5,[]),(6,[]),(7,[]),(8,[]),(9,[]),(10,[]),(11,[]),(12,[]),(13,[]),(14,[])])
 | 6=>([0,0,2,6,14,0,32,96,224,480,1022,2047,4095,8191],[(0,[]),(1,[]),(2,[]),(3,[]),(4,[]),(5,[]),(6,[]),(7,[]),(8,[]),(9,[]),(10,[]),(11,[]),(12,[]),(13,[])])
 | _=>([],[])
def Tryz.ord20:Nat→List Nat×List (Nat×List Nat)
 | 15=>([0,1,0,0,8,24,60,0,252,508,1020,2047,4095,8191],[(0,[]),(1,[]),(2,[]),(3,[]),(4,[]),(5,[]),(7,[]),(6,[1]),(8,[1]),(9,[]),(10,[]),(11,[]),(12,[]),(13,[])])
 | 20=>([0,1,0,4,15,0,32,0,128,511,31,2047,4095,8191],[(0,[]),(1,[]),(2,[]),(3,[]),(5,[]),(6,[]),(7,[]),(8,[]),(4,[6]),(10,[]),(9,[]),(11,[]),(12,[]),(13,[])])
 | 21=>([0,0,1,7],[(0,[]),(1,[]),(2,[1]),(3,[])])
 | _=>([],[])
def Tryz.ord25:Nat→List Nat×List (Nat×List Nat)
 | 1=>([0,0,0,6,14,31,63,127,127,127,0,1279,3583,8191],[(0,[]),(1,[]),(2,[]),(3,[0]),(4,[]),(5,[]),(6,[]),(7,[]),(8,[]),(9,[]),(10,[]),(11,[]),(12,[]),(13,[])])
 | _=>([],[])
def Tryz.ord26:Nat→List Nat×List (Nat×List Nat)
 | 6=>([0,1,3,7,15,31,63,127,255,511,1023,2047,4095,8191,16383,32767,65535,131071,262143,524287,1048575,2097151,4194303,8388607,8388607,33554431,67108863,134217727,268435455,268435455,268435455,1879048191,4294967295,8589934591,17179869183,34359738367,34359738367,137438953471,274877906943,549755813887,1099511627775,1099511627775,4398046511103,8796093022207,17592186044415],[(0,[]),(1,[]),(2,[]),(3,[]),(4,[]),(5,[]),(6,[]),(7,[]),(8,[]),(9,[]),(10,[]),(11,[]),(12,[]),(13,[]),(14,[]),(15,[]),(16,[]),(17,[]),(18,[]),(19,[]),(20,[]),(21,[]),(22,[]),(23,[]),(24,[23]),(25,[]),(26,[]),(27,[]),(28,[]),(29,[]),(30,[]),(31,[]),(32,[]),(33,[]),(34,[]),(35,[]),(36,[]),(37,[]),(38,[]),(39,[]),(40,[]),(41,[]),(42,[]),(43,[]),(44,[])])
 | _=>([],[])
def Tryz.ord33:Nat→List Nat×List (Nat×List Nat)
 | 4=>([0,0,0,6,0,30,63,127,255,255,255,0,2559,7167,16383],[(0,[]),(1,[]),(2,[]),(4,[]),(3,[0]),(5,[]),(6,[]),(7,[]),(8,[]),(9,[]),(10,[]),(11,[]),(12,[]),(13,[]),(14,[])])
 | _=>([],[])
def Tryz.ord35:Nat→List Nat×List (Nat×List Nat)
 | 4=>([0,0,0,6,0,30,63,127,255,255,255,0,2559,7167,16383],[(0,[]),(1,[]),(2,[]),(4,[]),(3,[0]),(5,[]),(6,[]),(7,[]),(8,[]),(9,[]),(10,[]),(11,[]),(12,[]),(13,[]),(14,[])])
 | _=>([],[])
def Tryz.ord37:Nat→List Nat×List (Nat×List Nat)
 | 5=>([0,1,0,7,15,0,32,0,224,480,1023,2047],[(0,[]),(1,[]),(2,[]),(3,[]),(4,[]),(5,[]),(6,[]),(7,[]),(8,[]),(9,[]),(10,[]),(11,[])])
 | 9=>([0,1,0,7,15,0,32,0,224,480,0,0,3103,8191],[(0,[]),(1,[]),(2,[]),(3,[]),(4,[]),(5,[]),(6,[]),(7,[]),(8,[]),(9,[]),(10,[]),(11,[]),(12,[6,9]),(13,[])])
 | _=>([],[])
def Tryz.ord40:Nat→List Nat×List (Nat×List Nat)
 | 8=>([0,0,2,6,0,0,32,96,240,496,1022,2046,4095,8191],[(0,[]),(1,[]),(2,[]),(3,[]),(4,[]),(5,[]),(6,[]),(7,[]),(8,[]),(9,[]),(10,[]),(11,[]),(12,[]),(13,[])])
 | _=>([],[])
def Tryz.ord43:Nat→List Nat×List (Nat×List Nat)
 | 10=>([0,1,0,7,15,31,0,64,192,511,1023],[(0,[]),(1,[]),(2,[]),(3,[]),(4,[]),(5,[]),(6,[]),(7,[]),(8,[]),(9,[]),(10,[])])
 | 19=>([0,0,2,0,14,30,63,127],[(0,[]),(1,[]),(2,[]),(3,[]),(4,[]),(5,[]),(6,[]),(7,[])])
 | _=>([],[])
def Tryz.ord44:Nat→List Nat×List (Nat×List Nat)
 | 5=>([0,0,3,7,0,0,48,112,255,511],[(0,[]),(1,[]),(2,[]),(3,[]),(4,[]),(5,[]),(6,[]),(7,[]),(8,[]),(9,[])])
 | _=>([],[])
def Tryz.ord50:Nat→List Nat×List (Nat×List Nat)
 | 5=>([0,0,3,7,0,0,48,112,255,511],[(0,[]),(1,[]),(2,[]),(3,[]),(4,[]),(5,[]),(6,[]),(7,[]),(8,[]),(9,[])])
 | _=>([],[])
def Tryz.ord51:Nat→List Nat×List (Nat×List Nat)
 | 5=>([0,0,3,7,0,0,48,112,255,511],[(0,[]),(1,[]),(2,[]),(3,[]),(4,[]),(5,[]),(6,[]),(7,[]),(8,[]),(9,[])])
 | _=>([],[])
def Tryz.ord57:Nat→List Nat×List (Nat×List Nat)
 | 17=>([0,1,3,3,11,3,59,123,3,259,3,1795,3843,7939,3,3,3,98307,229379,3,1015811,2064387,4194303,8388607,16777215],[(0,[]),(1,[]),(2,[]),(3,[]),(4,[]),(5,[]),(6,[]),(7,[]),(8,[]),(9,[]),(10,[]),(11,[]),(12,[]),(14,[]),(15,[]),(16,[]),(17,[]),(18,[]),(19,[]),(20,[]),(21,[]),(13,[2,4,7,18,21]),(22,[]),(23,[]),(24,[])])
 | _=>([],[])
def Tryz.ord62:Nat→List Nat×List (Nat×List Nat)
 | 10=>([0,1,3,0,8,31,63],[(0,[]),(1,[]),(3,[]),(4,[]),(2,[3]),(5,[]),(6,[])])
 | 14=>([0,0,0,0,0,0,48,112,240,496,1008,0,0,6144,14336,30720,63488,131056,262131,524275,1048563,2097139,4194303,8388607,16777215,33554431],[(0,[]),(1,[]),(2,[]),(3,[]),(4,[]),(5,[]),(6,[]),(7,[]),(8,[]),(9,[]),(11,[]),(12,[]),(13,[]),(14,[]),(15,[]),(16,[]),(10,[16]),(17,[]),(18,[]),(19,[]),(20,[]),(21,[]),(22,[]),(23,[]),(24,[]),(25,[])])
 | _=>([],[])
def Tryz.ord64:Nat→List Nat×List (Nat×List Nat)
 | 3=>([0,1,0,0,0,0,32,124,255,0,0,1024,3072,0,8192,32508,65535,131071],[(0,[]),(1,[]),(2,[]),(3,[]),(4,[]),(5,[]),(6,[]),(9,[]),(10,[]),(11,[]),(12,[]),(13,[]),(14,[]),(7,[1,11,14]),(8,[]),(15,[1]),(16,[]),(17,[])])
 | _=>([],[])
def Tryz.ord75:Nat→List Nat×List (Nat×List Nat)
 | 9=>([0,1,0,4,0,16,0,0,128,448,1023,0,4095],[(0,[]),(1,[]),(2,[]),(3,[]),(4,[]),(5,[]),(6,[]),(7,[]),(8,[]),(9,[1,3,5]),(10,[]),(11,[]),(12,[])])
 | 10=>([0,0,2,7,0,16,63,127],[(0,[]),(1,[]),(2,[]),(4,[]),(5,[]),(3,[4]),(6,[]),(7,[])])
 | 15=>([0,0,2,6,15,0,0,64,192,511,479,1503,4095,8191,16383,32767],[(0,[]),(1,[]),(2,[]),(3,[]),(5,[]),(6,[]),(7,[]),(8,[]),(4,[8]),(10,[]),(11,[]),(9,[]),(12,[]),(13,[]),(14,[]),(15,[])])
 | _=>([],[])
def Tryz.ord89:Nat→List Nat×List (Nat×List Nat)
 | 6=>([0,0,3,7,0,0,32,112,240,511],[(0,[]),(1,[]),(2,[]),(3,[]),(4,[]),(5,[]),(6,[]),(7,[]),(8,[]),(9,[])])
 | 11=>([0,0,3,7,0,0,32,112,240,511],[(0,[]),(1,[]),(2,[]),(3,[]),(4,[]),(5,[]),(6,[]),(7,[]),(8,[]),(9,[])])
 | _=>([],[])
def Tryz.ord92:Nat→List Nat×List (Nat×List Nat)
 | 1=>([0,1,3,0,0,16,63,55,255,511,1023],[(0,[]),(1,[]),(2,[2]),(3,[]),(4,[]),(5,[]),(7,[]),(6,[]),(8,[]),(9,[]),(10,[])])
 | _=>([],[])
def Tryz.ord94:Nat→List Nat×List (Nat×List Nat)
 | 6=>([0,1,0,4,12,0,60,127,0,256,0,1024,3072,0,15360,32512,65535,131071],[(0,[]),(1,[]),(2,[]),(3,[]),(4,[]),(5,[]),(6,[]),(7,[]),(8,[]),(9,[]),(10,[]),(11,[]),(12,[]),(13,[]),(14,[]),(15,[]),(16,[]),(17,[])])
 | _=>([],[])
def Tryz.ord101:Nat→List Nat×List (Nat×List Nat)
 | 5=>([0,1,0,7,15,0,32,0,224,480,1023,2047],[(0,[]),(1,[]),(2,[]),(3,[]),(4,[]),(5,[]),(6,[]),(7,[]),(8,[]),(9,[]),(10,[]),(11,[])])
 | _=>([],[])
def Tryz.ord108:Nat→List Nat×List (Nat×List Nat)
 | 6=>([0,0,0,0,0,24,0,120,255,511],[(0,[]),(1,[]),(2,[]),(3,[]),(4,[]),(6,[]),(5,[0]),(7,[0]),(8,[]),(9,[])])
 | 12=>([0,0,0,0,0,0,48,0,128,496,1022,2047,4095],[(0,[]),(1,[]),(2,[]),(3,[]),(4,[]),(5,[]),(7,[]),(8,[]),(6,[1]),(9,[1]),(10,[]),(11,[]),(12,[])])
 | _=>([],[])
def Tryz.ord110:Nat→List Nat×List (Nat×List Nat)
 | 10=>([0,0,0,0,12,28,63,127],[(0,[]),(1,[]),(2,[]),(3,[]),(4,[]),(5,[]),(6,[]),(7,[])])
 | _=>([],[])
def Tryz.ord111:Nat→List Nat×List (Nat×List Nat)
 | 4=>([0,1,3,0,0,0,32,120,255,0,1023],[(0,[]),(1,[]),(2,[]),(3,[]),(4,[]),(5,[]),(6,[]),(7,[2]),(8,[]),(9,[]),(10,[])])
 | _=>([],[])
def Tryz.ord114:Nat→List Nat×List (Nat×List Nat)
 | 2=>([0,1,3,7,0,16,63,0,128,384,896,0,2048,8064,16383,32767],[(0,[]),(1,[]),(2,[]),(3,[]),(4,[]),(5,[]),(6,[]),(7,[]),(8,[]),(9,[]),(10,[]),(11,[]),(12,[]),(13,[]),(14,[]),(15,[])])
 | _=>([],[])
def Tryz.ord115:Nat→List Nat×List (Nat×List Nat)
 | 1=>([0,1,3,0,0,16,48,120,255,511],[(0,[]),(1,[]),(2,[]),(3,[]),(4,[]),(5,[]),(6,[]),(7,[2]),(8,[]),(9,[])])
 | _=>([],[])
def Tryz.ord116:Nat→List Nat×List (Nat×List Nat)
 | 1=>([0,0,3,0,8,0,0,103,255,511,1023],[(0,[]),(1,[]),(3,[]),(4,[]),(5,[]),(6,[]),(2,[3,5]),(7,[3]),(8,[]),(9,[]),(10,[])])
 | _=>([],[])
def Tryz.ord117:Nat→List Nat×List (Nat×List Nat)
 | 16=>([0,0,3,7,0,16,63,127,255],[(0,[]),(1,[]),(2,[]),(3,[]),(4,[]),(5,[]),(6,[]),(7,[]),(8,[])])
 | _=>([],[])
def Tryz.ord124:Nat→List Nat×List (Nat×List Nat)
 | 1=>([0,0,2,6,15,0,0,64,192,511,1023,0,4095],[(0,[]),(1,[]),(2,[]),(3,[]),(5,[]),(6,[]),(7,[]),(8,[]),(4,[8]),(9,[]),(10,[]),(11,[]),(12,[])])
 | 5=>([0,1,0,0,12,31,0,64,0,0,796,2012,4095,8191],[(0,[]),(1,[]),(2,[]),(3,[]),(6,[]),(7,[]),(8,[]),(9,[]),(4,[1,7,9]),(5,[]),(10,[1,7]),(11,[]),(12,[]),(13,[])])
 | _=>([],[])
def Tryz.ord126:Nat→List Nat×List (Nat×List Nat)
 | 1=>([0,0,0,6,15,31,63,63,127,511],[(0,[]),(1,[]),(2,[]),(3,[0]),(4,[]),(5,[]),(6,[]),(7,[]),(8,[]),(9,[])])
 | _=>([],[])
def Tryz.ord141:Nat→List Nat×List (Nat×List Nat)
 | 17=>([0,1,3,7,7,23,63,127,7,7,775,1799,4095,8191,16383],[(0,[]),(1,[]),(2,[]),(3,[]),(4,[]),(5,[]),(6,[]),(7,[]),(8,[]),(9,[]),(10,[]),(11,[]),(12,[]),(13,[]),(14,[])])
 | _=>([],[])
def Tryz.ord147:Nat→List Nat×List (Nat×List Nat)
 | 17=>([0,0,2,1,15],[(0,[]),(1,[]),(2,[]),(3,[2]),(4,[])])
 | _=>([],[])
def Tryz.ord148:Nat→List Nat×List (Nat×List Nat)
 | 13=>([0,1,0,7,15,31,0,64,0,448,960,1984,4095,8191],[(0,[]),(1,[]),(2,[]),(3,[]),(4,[]),(5,[]),(6,[]),(7,[]),(8,[]),(9,[]),(10,[]),(11,[]),(12,[]),(13,[])])
 | 20=>([0,1,0,7,15,0,32,96,255,511],[(0,[]),(1,[]),(2,[]),(3,[]),(4,[]),(5,[]),(6,[]),(7,[]),(8,[]),(9,[])])
 | _=>([],[])
def Tryz.ord152:Nat→List Nat×List (Nat×List Nat)
 | 8=>([0,1,3,3,11,3,59,123,3,3,771,1795,3,3,3,24579,57347,131071,262143,524287],[(0,[]),(1,[]),(2,[]),(3,[]),(4,[]),(5,[]),(6,[]),(7,[]),(8,[]),(9,[]),(10,[]),(11,[]),(12,[]),(13,[]),(14,[]),(15,[]),(16,[]),(17,[]),(18,[]),(19,[])])
 | _=>([],[])
def Tryz.ord159:Nat→List Nat×List (Nat×List Nat)
 | 5=>([0,0,0,4,14,30,63,127],[(0,[]),(1,[]),(2,[]),(3,[]),(4,[0]),(5,[]),(6,[]),(7,[])])
 | _=>([],[])
def Tryz.ord179:Nat→List Nat×List (Nat×List Nat)
 | 17=>([0,1,3,7,7,7,39,119,247,7,7,1543,3591,8191,16383,32767,65535],[(0,[]),(1,[]),(2,[]),(3,[]),(4,[]),(5,[]),(6,[]),(7,[]),(8,[]),(9,[]),(10,[]),(11,[]),(12,[]),(13,[]),(14,[]),(15,[]),(16,[])])
 | _=>([],[])
def Tryz.ord182:Nat→List Nat×List (Nat×List Nat)
 | 4=>([0,0,3,7,15,15,63,127,15,15,527,1807,3855,8191,16383],[(0,[]),(1,[]),(2,[]),(3,[]),(4,[]),(5,[]),(6,[]),(7,[]),(8,[]),(9,[]),(10,[]),(11,[]),(12,[]),(13,[]),(14,[])])
 | 6=>([0,0,0,0,8,0,0,64,224,480,0,0,3072,7168,16355,32739,65535,131071],[(0,[]),(1,[]),(2,[]),(3,[]),(4,[]),(5,[]),(6,[]),(7,[]),(8,[]),(9,[]),(10,[]),(11,[]),(12,[]),(13,[]),(14,[]),(15,[]),(16,[]),(17,[])])
 | _=>([],[])
def Tryz.ord187:Nat→List Nat×List (Nat×List Nat)
 | 5=>([0,0,3,7,15,15,63,127,15,15,527,1807,3855,8191,16383,32767],[(0,[]),(1,[]),(2,[]),(3,[]),(4,[]),(5,[]),(6,[]),(7,[]),(8,[]),(9,[]),(10,[]),(11,[]),(12,[]),(13,[]),(14,[]),(15,[])])
 | 11=>([0,0,0,0,8,0,0,64,224,480,0,0,3072,7168,16355,32739,65535,131071],[(0,[]),(1,[]),(2,[]),(3,[]),(4,[]),(5,[]),(6,[]),(7,[]),(8,[]),(9,[]),(10,[]),(11,[]),(12,[]),(13,[]),(14,[]),(15,[]),(16,[]),(17,[])])
 | 16=>([0,0,3,7,0,0,32,112,240,511,1023],[(0,[]),(1,[]),(2,[]),(3,[]),(4,[]),(5,[]),(6,[]),(7,[]),(8,[]),(9,[]),(10,[])])
 | 17=>([0,0,0,0,8,0,0,64,224,480,0,0,3072,7168,16355,32739,65535,131071],[(0,[]),(1,[]),(2,[]),(3,[]),(4,[]),(5,[]),(6,[]),(7,[]),(8,[]),(9,[]),(10,[]),(11,[]),(12,[]),(13,[]),(14,[]),(15,[]),(16,[]),(17,[])])
 | 22=>([0,0,3,7,0,0,32,112,240,511,1023],[(0,[]),(1,[]),(2,[]),(3,[]),(4,[]),(5,[]),(6,[]),(7,[]),(8,[]),(9,[]),(10,[])])
 | 23=>([0,0,0,0,8,0,0,64,224,480,0,0,3072,7168,16355,32739,65535,131071],[(0,[]),(1,[]),(2,[]),(3,[]),(4,[]),(5,[]),(6,[]),(7,[]),(8,[]),(9,[]),(10,[]),(11,[]),(12,[]),(13,[]),(14,[]),(15,[]),(16,[]),(17,[])])
 | _=>([],[])
def Tryz.ord197:Nat→List Nat×List (Nat×List Nat)
 | 10=>([0,0,0,0,12,0,32,124,254,511,1023],[(0,[]),(1,[]),(2,[]),(3,[]),(5,[]),(6,[]),(4,[1]),(7,[1]),(8,[]),(9,[]),(10,[])])
 | _=>([],[])
def Tryz.ord198:Nat→List Nat×List (Nat×List Nat)
 | 1=>([0,1,3,0,15,31,0,64,192,0,960,1984,4095,0,16383],[(0,[]),(1,[]),(2,[]),(3,[]),(4,[]),(5,[]),(6,[]),(7,[]),(8,[]),(9,[]),(10,[]),(11,[]),(12,[]),(13,[]),(14,[])])
 | 5=>([0,1,0,0,12,28,0,124,252,511,0,1024,0,0,12288,28672,0,126976,258048,523264,1048575,2097151],[(0,[]),(1,[]),(2,[]),(3,[]),(4,[]),(5,[]),(6,[]),(7,[]),(8,[]),(9,[]),(10,[]),(11,[]),(12,[]),(13,[]),(14,[]),(15,[]),(16,[]),(17,[]),(18,[]),(19,[]),(20,[]),(21,[])])
 | _=>([],[])
def Tryz.ord208:Nat→List Nat×List (Nat×List Nat)
 | 4=>([0,1,3,7,15,0,32,96,255,511],[(0,[]),(1,[]),(2,[]),(3,[]),(4,[]),(5,[]),(6,[]),(7,[]),(8,[]),(9,[])])
 | 15=>([0,0,2,6,0,16,48,127,0,256,768,2047,4095,8191,16383],[(0,[]),(1,[]),(2,[]),(3,[]),(4,[]),(5,[]),(6,[]),(8,[]),(9,[]),(10,[]),(7,[10]),(11,[]),(12,[]),(13,[]),(14,[])])
 | _=>([],[])
def Tryz.ord210:Nat→List Nat×List (Nat×List Nat)
 | 4=>([0,0,3,7,15,15,15,111,239,15,15,1039,3599,7695,16383,32767,65535],[(0,[]),(1,[]),(2,[]),(3,[]),(4,[]),(5,[]),(6,[]),(7,[]),(8,[]),(9,[]),(10,[]),(11,[]),(12,[]),(13,[]),(14,[]),(15,[]),(16,[])])
 | 6=>([0,0,0,0,8,0,0,64,224,480,0,0,3072,7168,16355,32739,65535,131071],[(0,[]),(1,[]),(2,[]),(3,[]),(4,[]),(5,[]),(6,[]),(7,[]),(8,[]),(9,[]),(10,[]),(11,[]),(12,[]),(13,[]),(14,[]),(15,[]),(16,[]),(17,[])])
 | _=>([],[])
def Tryz.ord224:Nat→List Nat×List (Nat×List Nat)
 | 4=>([0,1,0,0,8,0,56,120,255,511],[(0,[]),(1,[]),(2,[]),(3,[]),(4,[]),(5,[]),(6,[]),(7,[]),(8,[]),(9,[])])
 | _=>([],[])
def Tryz.ord229:Nat→List Nat×List (Nat×List Nat)
 | 1=>([0,1,3,7,15,0,32,96,255,511],[(0,[]),(1,[]),(2,[]),(3,[]),(4,[]),(5,[]),(6,[]),(7,[]),(8,[]),(9,[])])
 | _=>([],[])
def Tryz.ord230:Nat→List Nat×List (Nat×List Nat)
 | 1=>([0,1,3,0,8,24,63,0,128,384,0,1024,3072,8064,16383,32767],[(0,[]),(1,[]),(2,[]),(3,[]),(4,[]),(5,[]),(6,[]),(7,[]),(8,[]),(9,[]),(10,[]),(11,[]),(12,[]),(13,[]),(14,[]),(15,[])])
 | _=>([],[])
def Tryz.ord236:Nat→List Nat×List (Nat×List Nat)
 | 1=>([0,0,3,7,0,0,48,112,255],[(0,[]),(1,[]),(2,[]),(3,[]),(4,[]),(5,[]),(6,[]),(7,[]),(8,[])])
 | _=>([],[])
def Tryz.ord237:Nat→List Nat×List (Nat×List Nat)
 | 3=>([0,0,2,7,15,0,32,127,255],[(0,[]),(1,[]),(2,[]),(3,[]),(4,[]),(5,[]),(6,[]),(7,[]),(8,[])])
 | 6=>([0,0,2,7,15,0,0,64,224,480,1023,0,2048,8191,0,16384,49152,114688,0,262144,786432,1835008,4194303,8388607],[(0,[]),(1,[]),(2,[]),(3,[]),(4,[]),(5,[]),(6,[]),(7,[]),(8,[]),(9,[]),(11,[]),(12,[]),(14,[]),(15,[]),(16,[]),(17,[]),(18,[]),(19,[]),(20,[]),(21,[]),(10,[12,16,20]),(13,[]),(22,[]),(23,[])])
 | 7=>([0,0,2,7,15,0,0,64,224,480,1023,2047],[(0,[]),(1,[]),(2,[]),(3,[]),(4,[]),(5,[]),(6,[]),(7,[]),(8,[]),(9,[]),(10,[]),(11,[])])
 | _=>([],[])
def Tryz.ord257:Nat→List Nat×List (Nat×List Nat)
 | 1=>([0,0,2,6,0,16,48,127,0,256,768,2047,0,4096,12288,28672,61440,0,131072,393216,917504,1966080,4194303,8388607],[(0,[]),(1,[]),(2,[]),(3,[]),(4,[]),(5,[]),(6,[]),(8,[]),(9,[]),(10,[]),(12,[]),(13,[]),(14,[]),(15,[]),(16,[]),(17,[]),(18,[]),(19,[]),(20,[]),(21,[]),(7,[10,15,20]),(11,[]),(22,[]),(23,[])])
 | _=>([],[])
def Tryz.ord258:Nat→List Nat×List (Nat×List Nat)
 | 1=>([0,1,3,7,15,0,32,96,224,480,1023,2047],[(0,[]),(1,[]),(2,[]),(3,[]),(4,[]),(5,[]),(6,[]),(7,[]),(8,[]),(9,[]),(10,[]),(11,[])])
 | _=>([],[])
end Go.Proofs
namespace Go.Proofs
def kq(b:Bool):List Nat→Nat→Bool
 | [],_=>b
 | a::l,t=>if t<a then b else kq (!b) l t
@[simp,go_sem] theorem kq_t{a t:Nat}{l:List Nat}:kq true (a::l) t=if t<a then true else kq false l t:=rfl
@[simp,go_sem] theorem kq_f{a t:Nat}{l:List Nat}:kq false (a::l) t=if t<a then false else kq true l t:=rfl
@[simp,go_sem] theorem kq_n{b:Bool}{t:Nat}:kq b [] t=b:=rfl
def Tryz.kp16(t:Nat):Bool:=kq true [5,6,20,26,27,35,36,105,106] t
def Tryz.kp19(t:Nat):Bool:=kq true [1,2,5,10,11] t
def Tryz.kp20(t:Nat):Bool:=kq true [4,8,18,39,40,43,44,61,62,81,82] t
def Tryz.kp21(t:Nat):Bool:=kq true [3,6,7] t
def Tryz.kp22(t:Nat):Bool:=kq true [4,5,7,14,15] t
def Tryz.kp23(t:Nat):Bool:=kq true [8,14,15,17,20,23,24,27,28,34,35] t
def Tryz.kp25(t:Nat):Bool:=kq true [3,4,6,7,11,22,23,25,26,27,28,33,34,42,43] t
def Tryz.kp26(t:Nat):Bool:=kq true [11] t
def Tryz.kp27(t:Nat):Bool:=kq true [4,12,13,21,22] t
def Tryz.kp28(t:Nat):Bool:=kq true [3] t
def Tryz.kp29(t:Nat):Bool:=kq true [5,6,8,9,10] t
def Tryz.kp30(t:Nat):Bool:=kq true [6,17,18] t
def Tryz.kp33(t:Nat):Bool:=kq true [5,8,15,19,20,32,33] t
def Tryz.kp35(t:Nat):Bool:=kq true [4,6,13,14,16,17,18,30,31,33,37,42,43,49,50,66,67] t
def Tryz.kp37(t:Nat):Bool:=kq true [10,54,55,75,76] t
def Tryz.kp38(t:Nat):Bool:=kq true [2,4,5,6,7] t
def Tryz.kp39(t:Nat):Bool:=kq true [2,4,5,7,8] t
def Tryz.kp42(t:Nat):Bool:=kq true [3,4,5] t
def Tryz.kp43(t:Nat):Bool:=kq true [6,29,30,36,37,40,41,45,46,58,59,66,67,70,71,75,76,86,87] t
def Tryz.kp44(t:Nat):Bool:=kq true [2,4,7,18,19] t
def Tryz.kp50(t:Nat):Bool:=kq true [2,4,7,18,19] t
def Tryz.kp51(t:Nat):Bool:=kq true [2,4,7,18,19] t
def Tryz.kp58(t:Nat):Bool:=kq true [8,14,15,17,20] t
def Tryz.kp60(t:Nat):Bool:=kq true [2,4,5] t
def Tryz.kp61(t:Nat):Bool:=kq true [3,6,7] t
def Tryz.kp62(t:Nat):Bool:=kq true [7,8,11,13,14,17,18,23,24,33,34,47,50,85,86] t
def Tryz.kp63(t:Nat):Bool:=kq true [5,10,11] t
def Tryz.kp64(t:Nat):Bool:=kq true [4,5,7,8,13,50,51,61,62] t
def Tryz.kp69(t:Nat):Bool:=kq true [6,8,11,15,16,35,36] t
def Tryz.kp74(t:Nat):Bool:=kq true [6,7,13,20,21,25,26,43,44] t
def Tryz.kp75(t:Nat):Bool:=kq true [13,17,18,23,24,29,30,53,54,87,88] t
def Tryz.kp76(t:Nat):Bool:=kq true [8,14,15,18,21] t
def Tryz.kp84(t:Nat):Bool:=kq true [3,4,9,10,12,18,19,21,25,28,29,36,37] t
def Tryz.kp85(t:Nat):Bool:=kq true [1,2,7,9,10,11,12,19,20] t
def Tryz.kp86(t:Nat):Bool:=kq true [2,4,6,7,12,16,17] t
def Tryz.kp87(t:Nat):Bool:=kq true [3,4,5,10,11] t
def Tryz.kp88(t:Nat):Bool:=kq true [1,2,3] t
def Tryz.kp89(t:Nat):Bool:=kq true [1,2,6,8,9,13,14,25,26,32,33,44,45] t
def Tryz.kp90(t:Nat):Bool:=kq true [2] t
def Tryz.kp91(t:Nat):Bool:=kq true [1] t
def Tryz.kp92(t:Nat):Bool:=kq true [3] t
def Tryz.kp93(t:Nat):Bool:=kq true [1,2,3,5,6] t
def Tryz.kp94(t:Nat):Bool:=kq true [5,8,12,18,19,20,21] t
def Tryz.kp96(t:Nat):Bool:=kq true [3,6,7] t
def Tryz.kp97(t:Nat):Bool:=kq true [8,11,12,20,21] t
def Tryz.kp99(t:Nat):Bool:=kq true [3,6,7] t
def Tryz.kp100(t:Nat):Bool:=kq true [4,6,9,13,14,33,34] t
def Tryz.kp101(t:Nat):Bool:=kq true [7,35,36] t
def Tryz.kp102(t:Nat):Bool:=kq true [1,2,4] t
def Tryz.kp103(t:Nat):Bool:=kq true [7,10,11] t
def Tryz.kp104(t:Nat):Bool:=kq true [5,9,10] t
def Tryz.kp105(t:Nat):Bool:=kq true [6,7,8,11,12,18,19,22,23,27,28,33,34] t
def Tryz.kp106(t:Nat):Bool:=kq true [2,4,5] t
def Tryz.kp107(t:Nat):Bool:=kq true [3,4,7,9,11,13,14] t
def Tryz.kp108(t:Nat):Bool:=kq true [5,8,11,15,16,19,20,26,27,43,44,47,48] t
def Tryz.kp109(t:Nat):Bool:=kq true [2,4,7,10,11,18,19] t
def Tryz.kp110(t:Nat):Bool:=kq true [11,16,17,26,27,38,39,51,52] t
def Tryz.kp111(t:Nat):Bool:=kq true [6,8,11,25,26] t
def Tryz.kp112(t:Nat):Bool:=kq true [1,2,6,8,10,13,14] t
def Tryz.kp113(t:Nat):Bool:=kq true [8,10,12] t
def Tryz.kp114(t:Nat):Bool:=kq true [4] t
def Tryz.kp115(t:Nat):Bool:=kq true [2,4,8,9,11,20,24,31,32] t
def Tryz.kp116(t:Nat):Bool:=kq true [2,3,4] t
def Tryz.kp117(t:Nat):Bool:=kq true [3,4,11,15,16,22,23,31,32,37,38,45,48] t
def Tryz.kp118(t:Nat):Bool:=kq true [1,2,3,4,5] t
def Tryz.kp119(t:Nat):Bool:=kq true [1,2,3,4,5] t
def Tryz.kp120(t:Nat):Bool:=kq true [1,2,3,4,5] t
def Tryz.kp121(t:Nat):Bool:=kq true [1,2,3,4,5] t
def Tryz.kp122(t:Nat):Bool:=kq true [5,10,11] t
def Tryz.kp123(t:Nat):Bool:=kq true [6,9,10,16,17] t
def Tryz.kp124(t:Nat):Bool:=kq true [2,4,6,7,8,19,23] t
def Tryz.kp125(t:Nat):Bool:=kq true [4] t
def Tryz.kp126(t:Nat):Bool:=kq true [3,4,10,11,13,22,23,25,29,37,38] t
def Tryz.kp127(t:Nat):Bool:=kq true [3,4,5,6,9,13,14,18,19,24,28,30,31,39,40,45,46,56,57,58,62,70,71] t
def Tryz.kp128(t:Nat):Bool:=kq true [3,4,9,13,14,20,21,29,30,41,42,54,56,74,75] t
def Tryz.kp133(t:Nat):Bool:=kq true [5,6,13,14,16,24,25,32,33,35,36,47,48,49,50,61,62] t
def Tryz.kp136(t:Nat):Bool:=kq true [6,7,8,12,15,19,22,26,27,29,33,41,42] t
def Tryz.kp137(t:Nat):Bool:=kq true [6,8,9,10,13,16,17] t
def Tryz.kp138(t:Nat):Bool:=kq true [2,4,5] t
def Tryz.kp139(t:Nat):Bool:=kq true [2,4,13,19,20,28,29,35,36] t
def Tryz.kp140(t:Nat):Bool:=kq true [2,4,5] t
def Tryz.kp141(t:Nat):Bool:=kq true [4,8,19,23,24,29,30,35,36,50,51,68,69,72,73,87,88,113,114] t
def Tryz.kp142(t:Nat):Bool:=kq true [1,2,3] t
def Tryz.kp143(t:Nat):Bool:=kq true [1,2,3] t
def Tryz.kp144(t:Nat):Bool:=kq true [4,6,8,9,10,12,16,27,28] t
def Tryz.kp145(t:Nat):Bool:=kq true [5,8,9] t
def Tryz.kp146(t:Nat):Bool:=kq true [4,5,7,31,32,39,40,45,49,51,52,59,60,68,69] t
def Tryz.kp147(t:Nat):Bool:=kq true [10,15,19,34,37,54,55] t
def Tryz.kp148(t:Nat):Bool:=kq true [7,10,11,14,15,18,19,23,24,33,34,48,49,52,53,57,58,70,71] t
def Tryz.kp149(t:Nat):Bool:=kq true [8,11,12,17,18,22,23] t
def Tryz.kp150(t:Nat):Bool:=kq true [5] t
def Tryz.kp151(t:Nat):Bool:=kq true [7,10,13,16,19,24,25] t
def Tryz.kp152(t:Nat):Bool:=kq true [4,6,10,14,15,20,21,43,44] t
def Tryz.kp153(t:Nat):Bool:=kq true [2,4,6,9,10,17,18] t
def Tryz.kp154(t:Nat):Bool:=kq true [3,6,11,12,13,17,18,29,30] t
def Tryz.kp155(t:Nat):Bool:=kq true [2,4,5] t
def Tryz.kp156(t:Nat):Bool:=kq true [3,4,5] t
def Tryz.kp157(t:Nat):Bool:=kq true [2,4,5] t
def Tryz.kp158(t:Nat):Bool:=kq true [1,2,3] t
def Tryz.kp159(t:Nat):Bool:=kq true [4,5,6,7,11] t
def Tryz.kp160(t:Nat):Bool:=kq true [3,4,7,10,11,13,14] t
def Tryz.kp161(t:Nat):Bool:=kq true [3,4,5,11,12] t
def Tryz.kp162(t:Nat):Bool:=kq true [3,6,7] t
def Tryz.kp169(t:Nat):Bool:=kq true [3,4,5,6,8,13,14] t
def Tryz.kp170(t:Nat):Bool:=kq true [2,4,6,7,8,9,10,11,15,19,23] t
def Tryz.kp171(t:Nat):Bool:=kq true [4] t
def Tryz.kp178(t:Nat):Bool:=kq true [1,2,3] t
def Tryz.kp179(t:Nat):Bool:=kq true [5,10,21,25,26,32,33,39,40,56,57,75,76,80,81,97,98,125,126] t
def Tryz.kp180(t:Nat):Bool:=kq true [2,4,7,11,14,16,17,19,20] t
def Tryz.kp181(t:Nat):Bool:=kq true [2,4,6,7,10,16,17] t
def Tryz.kp182(t:Nat):Bool:=kq true [3,6,8,12,13,30,31] t
def Tryz.kp185(t:Nat):Bool:=kq true [3,6,13,32,33,34,35,49,50,51,52,54,55] t
def Tryz.kp187(t:Nat):Bool:=kq true [3,6,11,14,15,32,33,37,38,41,42,61,62,65,66,78,79,98,99,103,104,116,117] t
def Tryz.kp188(t:Nat):Bool:=kq true [2,4,5] t
def Tryz.kp192(t:Nat):Bool:=kq true [1,2,3,4,5,8,9,14,15] t
def Tryz.kp193(t:Nat):Bool:=kq true [6] t
def Tryz.kp194(t:Nat):Bool:=kq true [3,6,7] t
def Tryz.kp195(t:Nat):Bool:=kq true [4,6,7,20,21,25,26] t
def Tryz.kp196(t:Nat):Bool:=kq true [3,4,7,10,11,12,13,17,18,24,25,33,34,45,46,56,57] t
def Tryz.kp197(t:Nat):Bool:=kq true [3,4,8,13,14,16,17,30,31] t
def Tryz.kp198(t:Nat):Bool:=kq true [2,4,7,23,24] t
def Tryz.kp199(t:Nat):Bool:=kq true [5] t
def Tryz.kp200(t:Nat):Bool:=kq true [7,8,10,14,15,21,22,36,37,51,52] t
def Tryz.kp201(t:Nat):Bool:=kq true [2,4,6,7,10,16,17] t
def Tryz.kp202(t:Nat):Bool:=kq true [3,4,8] t
def Tryz.kp203(t:Nat):Bool:=kq true [5] t
def Tryz.kp204(t:Nat):Bool:=kq true [7,8,9,10,12,16,21,26,27,44,45,55,56] t
def Tryz.kp208(t:Nat):Bool:=kq true [2,3,11,12,14,38,39,48,49,55,57,73,74] t
def Tryz.kp209(t:Nat):Bool:=kq true [1,2,3] t
def Tryz.kp210(t:Nat):Bool:=kq true [4,8,10,14,15,34,35] t
def Tryz.kp218(t:Nat):Bool:=kq true [1,2,3] t
def Tryz.kp223(t:Nat):Bool:=kq true [5,10,11] t
def Tryz.kp224(t:Nat):Bool:=kq true [3,4,6,10,11,22,23] t
def Tryz.kp229(t:Nat):Bool:=kq true [6] t
def Tryz.kp230(t:Nat):Bool:=kq true [4,6,7] t
def Tryz.kp232(t:Nat):Bool:=kq true [1,2,3] t
def Tryz.kp236(t:Nat):Bool:=kq true [4,8,10,18,19] t
def Tryz.kp237(t:Nat):Bool:=kq true [3,5,8,9,11,40,41] t
def Tryz.kp240(t:Nat):Bool:=kq true [2,4,5] t
def Tryz.kp257(t:Nat):Bool:=kq true [5] t
def Tryz.kp258(t:Nat):Bool:=kq true [5] t
end Go.Proofs
