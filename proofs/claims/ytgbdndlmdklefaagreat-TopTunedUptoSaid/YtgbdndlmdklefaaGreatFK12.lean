/- The types of the seat, told to the abstract layer. Written by program. -/
import Derived.Test.YtgbdndlmdklefaaGreatFK10
import Derived.Test.YtgbdndlmdklefaaGreatProg
import Derived.KernelRfl
import Derived.Test.YtgbdndlmdklefaaGreatFK11
import Derived.Laws.StructEq
set_option linter.unusedSimpArgs false
set_option linter.unusedVariables false
set_option maxRecDepth 100000
set_option maxHeartbeats 40000000
namespace Go.Proofs
open Go Go.Mu
def Tryz.ti1:TI:=⟨1,8,.func,.nilfn,false,false,false⟩
def Tryz.ti2:TI:=⟨1,8,.int .i64,.int .i64 0,false,false,false⟩
def Tryz.ti3:TI:=⟨1,8,.int .i64,.int .i64 0,false,false,false⟩
def Tryz.ti4:TI:=⟨1,1,.bool,.bool false,false,false,false⟩
def Tryz.ti5:TI:=⟨1,1,.int .u8,.int .u8 0,false,false,false⟩
def Tryz.ti9:TI:=⟨1,16,.str,.str ByteArray.empty,false,false,false⟩
def Tryz.ti22:TI:=⟨1,24,.slice 3,.list .full 0 [],false,false,false⟩
def Tryz.ti23:TI:=⟨1,8,.ptr 116,.nilptr,false,false,false⟩
def Tryz.ti26:TI:=⟨2,16,.strct [(0,3),(1,3)],.agg [.int .i64 0,.int .i64 0],true,false,false⟩
def Tryz.ti27:TI:=⟨1,24,.slice 67,.list .full 0 [],false,false,false⟩
def Tryz.ti28:TI:=⟨1,24,.slice 51,.list .full 0 [],false,false,false⟩
def Tryz.ti30:TI:=⟨6,80,.strct [(0,3),(1,3),(2,26),(4,27),(5,28)],.agg [.int .i64 0,.int .i64 0,.int .i64 0,.int .i64 0,.list .full 0 [],.list .full 0 []],false,false,false⟩
def Tryz.ti32:TI:=⟨2,48,.strct [(0,22),(1,22)],.agg [.list .full 0 [],.list .full 0 []],false,false,false⟩
def Tryz.ti36:TI:=⟨1,24,.slice 22,.list .full 0 [],false,false,false⟩
def Tryz.ti37:TI:=⟨1,8,.int .i64,.int .i64 0,false,false,false⟩
def Tryz.ti46:TI:=⟨1,24,.slice 26,.list .full 0 [],false,false,false⟩
def Tryz.ti47:TI:=⟨1,24,.slice 105,.list .full 0 [],false,false,false⟩
def Tryz.ti49:TI:=⟨3,56,.strct [(0,3),(1,46),(2,47)],.agg [.int .i64 0,.list .full 0 [],.list .full 0 []],false,false,false⟩
def Tryz.ti51:TI:=⟨6,80,.strct [(0,3),(1,3),(2,3),(3,49)],.agg [.int .i64 0,.int .i64 0,.int .i64 0,.int .i64 0,.list .full 0 [],.list .full 0 []],false,false,false⟩
def Tryz.ti67:TI:=⟨2,16,.strct [(0,3),(1,3)],.agg [.int .i64 0,.int .i64 0],false,false,false⟩
def Tryz.ti105:TI:=⟨6,48,.strct [(0,3),(1,3),(2,3),(3,3),(4,26)],.agg [.int .i64 0,.int .i64 0,.int .i64 0,.int .i64 0,.int .i64 0,.int .i64 0],false,false,false⟩
def Tryz.ti114:TI:=⟨1,8,.int .u64,.int .u64 0,false,false,false⟩
def Tryz.ti116:TI:=⟨1,8,.strct [(0,114)],.agg [.int .u64 0],false,false,false⟩
def Tryz.ti117:TI:=⟨1,8,.int .u64,.int .u64 0,false,false,false⟩
def Tryz.ti119:TI:=⟨7,104,.strct [(0,30),(6,36)],.agg [.int .i64 0,.int .i64 0,.int .i64 0,.int .i64 0,.list .full 0 [],.list .full 0 [],.list .full 0 []],false,false,false⟩
def Tryz.ti120:TI:=⟨1,8,.map 127 4,.nilmap,false,false,false⟩
def Tryz.ti127:TI:=⟨4,32,.arr 4 3,.agg [.int .i64 0,.int .i64 0,.int .i64 0,.int .i64 0],true,false,true⟩
def Tryz.ti144:TI:=⟨1,8,.int .u64,.int .u64 0,false,false,false⟩
def Tryz.ti146:TI:=⟨1,24,.slice 127,.list .full 0 [],false,false,false⟩
def Tryz.ti164:TI:=⟨1,24,.slice 169,.list .full 0 [],false,false,false⟩
def Tryz.ti169:TI:=⟨3,24,.arr 3 3,.agg [.int .i64 0,.int .i64 0,.int .i64 0],false,false,false⟩
def Tryz.ti170:TI:=⟨1,8,.func,.nilfn,false,false,false⟩
def Tryz.ti179:TI:=⟨1,24,.slice 37,.list .full 0 [],false,false,false⟩
def Tryz.ti181:TI:=⟨1,8,.map 144 4,.nilmap,false,false,false⟩
def Tryz.ti184:TI:=⟨1,8,.func,.nilfn,false,false,false⟩
def Tryz.ti189:TI:=⟨1,8,.func,.nilfn,false,false,false⟩
def Tryz.ti190:TI:=⟨1,8,.func,.nilfn,false,false,false⟩
def Tryz.ti192:TI:=⟨1,8,.func,.nilfn,false,false,false⟩
def Tryz.ti195:TI:=⟨1,8,.func,.nilfn,false,false,false⟩
def Tryz.ti197:TI:=⟨1,8,.func,.nilfn,false,false,false⟩
def Tryz.ti198:TI:=⟨1,8,.func,.nilfn,false,false,false⟩
def Tryz.ti202:TI:=⟨1,8,.map 3 4,.nilmap,false,false,false⟩
def Tryz.ti210:TI:=⟨5,40,.strct [(0,26),(2,3),(3,3),(4,3)],.agg [.int .i64 0,.int .i64 0,.int .i64 0,.int .i64 0,.int .i64 0],false,false,false⟩
def Tryz.ti213:TI:=⟨1,16,.iface,.niliface,false,false,false⟩
def Tryz.ti215:TI:=⟨1,8,.map 3 164,.nilmap,false,false,false⟩
def Tryz.ti225:TI:=⟨1,8,.int .i64,.int .i64 0,false,false,false⟩
def Tryz.ti232:TI:=⟨1,4,.int .u32,.int .u32 0,false,false,false⟩
def Tryz.ti234:TI:=⟨1,8,.chan,.chan none,false,false,false⟩
def Tryz.ti236:TI:=⟨3,40,.strct [(0,3),(1,22),(2,37)],.agg [.int .i64 0,.list .full 0 [],.int .i64 0],false,false,false⟩
def Tryz.ti239:TI:=⟨1,8,.func,.nilfn,false,false,false⟩
def Tryz.ti242:TI:=⟨1,24,.slice 213,.list .full 0 [],false,false,false⟩
def Tryz.ti243:TI:=⟨1,8,.func,.nilfn,false,false,false⟩
def Tryz.ti244:TI:=⟨1,8,.func,.nilfn,false,false,false⟩
def Tryz.ti252:TI:=⟨7,56,.strct [(0,105),(6,3)],.agg [.int .i64 0,.int .i64 0,.int .i64 0,.int .i64 0,.int .i64 0,.int .i64 0,.int .i64 0],false,false,false⟩
def Tryz.ti254:TI:=⟨6,48,.strct [(0,105)],.agg [.int .i64 0,.int .i64 0,.int .i64 0,.int .i64 0,.int .i64 0,.int .i64 0],false,false,false⟩
def Tryz.ti255:TI:=⟨6,48,.strct [(0,105)],.agg [.int .i64 0,.int .i64 0,.int .i64 0,.int .i64 0,.int .i64 0,.int .i64 0],false,false,false⟩
def Tryz.ti265:TI:=⟨1,8,.ptr 3,.nilptr,false,false,false⟩
def Tryz.tyl:List (Nat×TI):=[(1,Tryz.ti1),(2,Tryz.ti2),(3,Tryz.ti3),(4,Tryz.ti4),(5,Tryz.ti5),(9,Tryz.ti9),(22,Tryz.ti22),(23,Tryz.ti23),(26,Tryz.ti26),(27,Tryz.ti27),(28,Tryz.ti28),(30,Tryz.ti30),(32,Tryz.ti32),(36,Tryz.ti36),(37,Tryz.ti37),(46,Tryz.ti46),(47,Tryz.ti47),(49,Tryz.ti49),(51,Tryz.ti51),(67,Tryz.ti67),(105,Tryz.ti105),(114,Tryz.ti114),(116,Tryz.ti116),(117,Tryz.ti117),(119,Tryz.ti119),(120,Tryz.ti120),(127,Tryz.ti127),(144,Tryz.ti144),(146,Tryz.ti146),(164,Tryz.ti164),(169,Tryz.ti169),(170,Tryz.ti170),(179,Tryz.ti179),(181,Tryz.ti181),(184,Tryz.ti184),(189,Tryz.ti189),(190,Tryz.ti190),(192,Tryz.ti192),(195,Tryz.ti195),(197,Tryz.ti197),(198,Tryz.ti198),(202,Tryz.ti202),(210,Tryz.ti210),(213,Tryz.ti213),(215,Tryz.ti215),(225,Tryz.ti225),(232,Tryz.ti232),(234,Tryz.ti234),(236,Tryz.ti236),(239,Tryz.ti239),(242,Tryz.ti242),(243,Tryz.ti243),(244,Tryz.ti244),(252,Tryz.ti252),(254,Tryz.ti254),(255,Tryz.ti255),(265,Tryz.ti265)]
def Tryz.ty(t:Nat):TI:=tyOf Tryz.tyl t
theorem Tryz.ty1:Tryz.ty 1=⟨1,8,.func,.nilfn,false,false,false⟩:=rfl
theorem Tryz.ty2:Tryz.ty 2=⟨1,8,.int .i64,.int .i64 0,false,false,false⟩:=rfl
theorem Tryz.ty3:Tryz.ty 3=⟨1,8,.int .i64,.int .i64 0,false,false,false⟩:=rfl
theorem Tryz.ty4:Tryz.ty 4=⟨1,1,.bool,.bool false,false,false,false⟩:=rfl
theorem Tryz.ty5:Tryz.ty 5=⟨1,1,.int .u8,.int .u8 0,false,false,false⟩:=rfl
theorem Tryz.ty9:Tryz.ty 9=⟨1,16,.str,.str ByteArray.empty,false,false,false⟩:=rfl
theorem Tryz.ty22:Tryz.ty 22=⟨1,24,.slice 3,.list .full 0 [],false,false,false⟩:=rfl
theorem Tryz.ty23:Tryz.ty 23=⟨1,8,.ptr 116,.nilptr,false,false,false⟩:=rfl
theorem Tryz.ty26:Tryz.ty 26=⟨2,16,.strct [(0,3),(1,3)],.agg [.int .i64 0,.int .i64 0],true,false,false⟩:=rfl
theorem Tryz.ty27:Tryz.ty 27=⟨1,24,.slice 67,.list .full 0 [],false,false,false⟩:=rfl
theorem Tryz.ty28:Tryz.ty 28=⟨1,24,.slice 51,.list .full 0 [],false,false,false⟩:=rfl
theorem Tryz.ty30:Tryz.ty 30=⟨6,80,.strct [(0,3),(1,3),(2,26),(4,27),(5,28)],.agg [.int .i64 0,.int .i64 0,.int .i64 0,.int .i64 0,.list .full 0 [],.list .full 0 []],false,false,false⟩:=rfl
theorem Tryz.ty32:Tryz.ty 32=⟨2,48,.strct [(0,22),(1,22)],.agg [.list .full 0 [],.list .full 0 []],false,false,false⟩:=rfl
theorem Tryz.ty36:Tryz.ty 36=⟨1,24,.slice 22,.list .full 0 [],false,false,false⟩:=rfl
theorem Tryz.ty37:Tryz.ty 37=⟨1,8,.int .i64,.int .i64 0,false,false,false⟩:=rfl
theorem Tryz.ty46:Tryz.ty 46=⟨1,24,.slice 26,.list .full 0 [],false,false,false⟩:=rfl
theorem Tryz.ty47:Tryz.ty 47=⟨1,24,.slice 105,.list .full 0 [],false,false,false⟩:=rfl
theorem Tryz.ty49:Tryz.ty 49=⟨3,56,.strct [(0,3),(1,46),(2,47)],.agg [.int .i64 0,.list .full 0 [],.list .full 0 []],false,false,false⟩:=rfl
theorem Tryz.ty51:Tryz.ty 51=⟨6,80,.strct [(0,3),(1,3),(2,3),(3,49)],.agg [.int .i64 0,.int .i64 0,.int .i64 0,.int .i64 0,.list .full 0 [],.list .full 0 []],false,false,false⟩:=rfl
theorem Tryz.ty67:Tryz.ty 67=⟨2,16,.strct [(0,3),(1,3)],.agg [.int .i64 0,.int .i64 0],false,false,false⟩:=rfl
theorem Tryz.ty105:Tryz.ty 105=⟨6,48,.strct [(0,3),(1,3),(2,3),(3,3),(4,26)],.agg [.int .i64 0,.int .i64 0,.int .i64 0,.int .i64 0,.int .i64 0,.int .i64 0],false,false,false⟩:=rfl
theorem Tryz.ty114:Tryz.ty 114=⟨1,8,.int .u64,.int .u64 0,false,false,false⟩:=rfl
theorem Tryz.ty116:Tryz.ty 116=⟨1,8,.strct [(0,114)],.agg [.int .u64 0],false,false,false⟩:=rfl
theorem Tryz.ty117:Tryz.ty 117=⟨1,8,.int .u64,.int .u64 0,false,false,false⟩:=rfl
theorem Tryz.ty119:Tryz.ty 119=⟨7,104,.strct [(0,30),(6,36)],.agg [.int .i64 0,.int .i64 0,.int .i64 0,.int .i64 0,.list .full 0 [],.list .full 0 [],.list .full 0 []],false,false,false⟩:=rfl
theorem Tryz.ty120:Tryz.ty 120=⟨1,8,.map 127 4,.nilmap,false,false,false⟩:=rfl
theorem Tryz.ty127:Tryz.ty 127=⟨4,32,.arr 4 3,.agg [.int .i64 0,.int .i64 0,.int .i64 0,.int .i64 0],true,false,true⟩:=rfl
theorem Tryz.ty144:Tryz.ty 144=⟨1,8,.int .u64,.int .u64 0,false,false,false⟩:=rfl
theorem Tryz.ty146:Tryz.ty 146=⟨1,24,.slice 127,.list .full 0 [],false,false,false⟩:=rfl
theorem Tryz.ty164:Tryz.ty 164=⟨1,24,.slice 169,.list .full 0 [],false,false,false⟩:=rfl
theorem Tryz.ty169:Tryz.ty 169=⟨3,24,.arr 3 3,.agg [.int .i64 0,.int .i64 0,.int .i64 0],false,false,false⟩:=rfl
theorem Tryz.ty170:Tryz.ty 170=⟨1,8,.func,.nilfn,false,false,false⟩:=rfl
theorem Tryz.ty179:Tryz.ty 179=⟨1,24,.slice 37,.list .full 0 [],false,false,false⟩:=rfl
theorem Tryz.ty181:Tryz.ty 181=⟨1,8,.map 144 4,.nilmap,false,false,false⟩:=rfl
theorem Tryz.ty184:Tryz.ty 184=⟨1,8,.func,.nilfn,false,false,false⟩:=rfl
theorem Tryz.ty189:Tryz.ty 189=⟨1,8,.func,.nilfn,false,false,false⟩:=rfl
theorem Tryz.ty190:Tryz.ty 190=⟨1,8,.func,.nilfn,false,false,false⟩:=rfl
theorem Tryz.ty192:Tryz.ty 192=⟨1,8,.func,.nilfn,false,false,false⟩:=rfl
theorem Tryz.ty195:Tryz.ty 195=⟨1,8,.func,.nilfn,false,false,false⟩:=rfl
theorem Tryz.ty197:Tryz.ty 197=⟨1,8,.func,.nilfn,false,false,false⟩:=rfl
theorem Tryz.ty198:Tryz.ty 198=⟨1,8,.func,.nilfn,false,false,false⟩:=rfl
theorem Tryz.ty202:Tryz.ty 202=⟨1,8,.map 3 4,.nilmap,false,false,false⟩:=rfl
theorem Tryz.ty210:Tryz.ty 210=⟨5,40,.strct [(0,26),(2,3),(3,3),(4,3)],.agg [.int .i64 0,.int .i64 0,.int .i64 0,.int .i64 0,.int .i64 0],false,false,false⟩:=rfl
theorem Tryz.ty213:Tryz.ty 213=⟨1,16,.iface,.niliface,false,false,false⟩:=rfl
theorem Tryz.ty215:Tryz.ty 215=⟨1,8,.map 3 164,.nilmap,false,false,false⟩:=rfl
theorem Tryz.ty225:Tryz.ty 225=⟨1,8,.int .i64,.int .i64 0,false,false,false⟩:=rfl
theorem Tryz.ty232:Tryz.ty 232=⟨1,4,.int .u32,.int .u32 0,false,false,false⟩:=rfl
theorem Tryz.ty234:Tryz.ty 234=⟨1,8,.chan,.chan none,false,false,false⟩:=rfl
theorem Tryz.ty236:Tryz.ty 236=⟨3,40,.strct [(0,3),(1,22),(2,37)],.agg [.int .i64 0,.list .full 0 [],.int .i64 0],false,false,false⟩:=rfl
theorem Tryz.ty239:Tryz.ty 239=⟨1,8,.func,.nilfn,false,false,false⟩:=rfl
theorem Tryz.ty242:Tryz.ty 242=⟨1,24,.slice 213,.list .full 0 [],false,false,false⟩:=rfl
theorem Tryz.ty243:Tryz.ty 243=⟨1,8,.func,.nilfn,false,false,false⟩:=rfl
theorem Tryz.ty244:Tryz.ty 244=⟨1,8,.func,.nilfn,false,false,false⟩:=rfl
theorem Tryz.ty252:Tryz.ty 252=⟨7,56,.strct [(0,105),(6,3)],.agg [.int .i64 0,.int .i64 0,.int .i64 0,.int .i64 0,.int .i64 0,.int .i64 0,.int .i64 0],false,false,false⟩:=rfl
theorem Tryz.ty254:Tryz.ty 254=⟨6,48,.strct [(0,105)],.agg [.int .i64 0,.int .i64 0,.int .i64 0,.int .i64 0,.int .i64 0,.int .i64 0],false,false,false⟩:=rfl
theorem Tryz.ty255:Tryz.ty 255=⟨6,48,.strct [(0,105)],.agg [.int .i64 0,.int .i64 0,.int .i64 0,.int .i64 0,.int .i64 0,.int .i64 0],false,false,false⟩:=rfl
theorem Tryz.ty265:Tryz.ty 265=⟨1,8,.ptr 3,.nilptr,false,false,false⟩:=rfl
theorem tk{t:Nat}{i:TI}{d:TypeDesc}(h4:Tryz.prog.underlying t=some d)(h5:KdOK d i.kd)(h1:(Tryz.prog.info? t).map (fun i=>(i.size,i.bytes))=some (i.sz,i.bytes):=by kernel_rfl)(h2:((Tryz.prog.info? t).bind (·.zero)).bind ofVal=some i.zero:=by kernel_rfl)(h3:i.zero.flat=true:=by rfl):TyOK Tryz.prog t i:=TyOK.of d h1 h2 h3 h4 h5
theorem Tryz.tysOK:TysOK Tryz.prog Tryz.ty:=tys_of (by
 simp only[Tryz.tyl,List.forall_mem_cons,List.not_mem_nil,false_implies,implies_true,and_true]
 exact⟨tk Tryz.underlying1 ⟨_,_,_,rfl⟩,tk Tryz.underlying2 rfl,tk Tryz.underlying3 rfl,tk Tryz.underlying4 rfl,tk Tryz.underlying5 rfl,tk Tryz.underlying9 rfl,tk Tryz.underlying22 rfl,tk Tryz.underlying23 rfl,tk Tryz.underlying26 ⟨_,rfl,rfl⟩,tk Tryz.underlying27 rfl,tk Tryz.underlying28 rfl,tk Tryz.underlying30 ⟨_,rfl,rfl⟩,tk Tryz.underlying32 ⟨_,rfl,rfl⟩,tk Tryz.underlying36 rfl,tk Tryz.underlying37 rfl,tk Tryz.underlying46 rfl,tk Tryz.underlying47 rfl,tk Tryz.underlying49 ⟨_,rfl,rfl⟩,tk Tryz.underlying51 ⟨_,rfl,rfl⟩,tk Tryz.underlying67 ⟨_,rfl,rfl⟩,tk Tryz.underlying105 ⟨_,rfl,rfl⟩,tk Tryz.underlying114 rfl,tk Tryz.underlying116 ⟨_,rfl,rfl⟩,tk Tryz.underlying117 rfl,tk Tryz.underlying119 ⟨_,rfl,rfl⟩,tk Tryz.underlying120 rfl,tk Tryz.underlying127 rfl,tk Tryz.underlying144 rfl,tk Tryz.underlying146 rfl,tk Tryz.underlying164 rfl,tk Tryz.underlying169 rfl,tk Tryz.underlying170 ⟨_,_,_,rfl⟩,tk Tryz.underlying179 rfl,tk Tryz.underlying181 rfl,tk Tryz.underlying184 ⟨_,_,_,rfl⟩,tk Tryz.underlying189 ⟨_,_,_,rfl⟩,tk Tryz.underlying190 ⟨_,_,_,rfl⟩,tk Tryz.underlying192 ⟨_,_,_,rfl⟩,tk Tryz.underlying195 ⟨_,_,_,rfl⟩,tk Tryz.underlying197 ⟨_,_,_,rfl⟩,tk Tryz.underlying198 ⟨_,_,_,rfl⟩,tk Tryz.underlying202 rfl,tk Tryz.underlying210 ⟨_,rfl,rfl⟩,tk Tryz.underlying213 ⟨_,rfl⟩,tk Tryz.underlying215 rfl,tk Tryz.underlying225 rfl,tk Tryz.underlying232 rfl,tk Tryz.underlying234 ⟨_,_,rfl⟩,tk Tryz.underlying236 ⟨_,rfl,rfl⟩,tk Tryz.underlying239 ⟨_,_,_,rfl⟩,tk Tryz.underlying242 rfl,tk Tryz.underlying243 ⟨_,_,_,rfl⟩,tk Tryz.underlying244 ⟨_,_,_,rfl⟩,tk Tryz.underlying252 ⟨_,rfl,rfl⟩,tk Tryz.underlying254 ⟨_,rfl,rfl⟩,tk Tryz.underlying255 ⟨_,rfl,rfl⟩,tk Tryz.underlying265 rfl⟩)
def Tryz.ord17:Nat→List Nat×List (Nat×List Nat)
 | 11=>([0,1,3,7,15,31,63,127,255,255,1023,2047,255,4351,12543,28927,255,65791,255,459007,983295,2031871,4190463,255,8388863,25166079,58720511,255,134217983,255,939524351,2013266175,4160749823,8581546239,17179865343,34359738367,68719476735],[(0,[]),(1,[]),(2,[]),(3,[]),(4,[]),(5,[]),(6,[]),(7,[]),(8,[]),(9,[]),(10,[]),(11,[]),(12,[]),(13,[]),(14,[]),(15,[]),(16,[]),(17,[]),(18,[]),(19,[]),(20,[]),(21,[]),(22,[]),(23,[]),(24,[]),(25,[]),(26,[]),(27,[]),(28,[]),(29,[]),(30,[]),(31,[]),(32,[]),(33,[]),(34,[]),(35,[]),(36,[])])
 | 16=>([0,1,0,7,15,31,0,0,0,384,896,1984,4095,8191],[(0,[]),(1,[]),(2,[]),(3,[]),(4,[]),(5,[]),(6,[]),(7,[]),(8,[]),(9,[]),(10,[]),(11,[1,5]),(12,[]),(13,[])])
 | 17=>([0,1,0,7,15,31,0,0,128,0,896,1920,3968,0,8192,32704,65535,131071,262143,262143,0,1572863,4194303],[(0,[]),(1,[]),(2,[]),(3,[]),(4,[]),(5,[]),(6,[]),(7,[]),(8,[]),(9,[]),(10,[]),(11,[]),(12,[]),(13,[]),(14,[]),(15,[1,5]),(16,[]),(17,[]),(18,[]),(19,[]),(20,[]),(21,[]),(22,[])])
 | 25=>([0,1,3,7,15,31,63,127,255,511,1023,2047,255,4351,12543,28927,65535,131071],[(0,[]),(1,[]),(2,[]),(3,[]),(4,[]),(5,[]),(6,[]),(7,[]),(8,[]),(9,[]),(10,[]),(11,[]),(12,[]),(13,[]),(14,[]),(15,[]),(16,[]),(17,[])])
 | 28=>([0,0,2,7,15,31,63,127,255,31,543,1567,3615,8191,16383],[(0,[]),(1,[]),(2,[]),(3,[]),(4,[]),(5,[]),(6,[]),(7,[]),(8,[]),(9,[]),(10,[]),(11,[]),(12,[]),(13,[]),(14,[])])
 | 34=>([0,1,3,3,15,31,3,3,195,451,1023,2047,4095],[(0,[]),(1,[]),(2,[]),(3,[]),(4,[]),(5,[]),(6,[]),(7,[]),(8,[]),(9,[]),(10,[]),(11,[]),(12,[])])
 | _=>([],[])
def Tryz.ord19:Nat→List Nat×List (Nat×List Nat)
 | 5=>([0,0,2,6,14,0,0,96,224,480,1022,2046,4095,8191,16383],[(0,[]),(1,[]),(2,[]),(3,[]),(4,[]),(5,[]),(6,[]),(7,[]),(8,[]),(9,[]),(10,[]),(11,[]),(12,[]),(13,[]),(14,[])])
 | 6=>([0,0,2,6,14,0,32,96,224,480,1022,2047,4095,8191],[(0,[]),(1,[]),(2,[]),(3,[]),(4,[]),(5,[]),(6,[]),(7,[]),(8,[]),(9,[]),(10,[]),(11,[]),(12,[]),(13,[])])
 | _=>([],[])
def Tryz.ord20:Nat→List Nat×List (Nat×List Nat)
 | 15=>([0,1,0,0,8,24,60,0,252,508,1020,2047,4095,8191],[(0,[]),(1,[]),(2,[]),(3,[]),(4,[]),(5,[]),(7,[]),(6,[1]),(8,[1]),(9,[]),(10,[]),(11,[]),(12,[]),(13,[])])
 | 20=>([0,1,0,4,15,0,32,0,128,511,31,2047,4095,8191],[(0,[]),(1,[]),(2,[]),(3,[]),(5,[]),(6,[]),(7,[]),(8,[]),(4,[6]),(10,[]),(9,[]),(11,[]),(12,[]),(13,[])])
 | 21=>([0,0,1,7],[(0,[]),(1,[]),(2,[1]),(3,[])])
 | _=>([],[])
def Tryz.ord25:Nat→List Nat×List (Nat×List Nat)
 | 1=>([0,0,0,6,14,31,63,127,127,127,0,1279,3583,8191],[(0,[]),(1,[]),(2,[]),(3,[0]),(4,[]),(5,[]),(6,[]),(7,[]),(8,[]),(9,[]),(10,[]),(11,[]),(12,[]),(13,[])])
 | _=>([],[])
def Tryz.ord33:Nat→List Nat×List (Nat×List Nat)
 | 4=>([0,0,0,6,0,30,63,127,255,255,255,0,2559,7167,16383],[(0,[]),(1,[]),(2,[]),(4,[]),(3,[0]),(5,[]),(6,[]),(7,[]),(8,[]),(9,[]),(10,[]),(11,[]),(12,[]),(13,[]),(14,[])])
 | _=>([],[])
def Tryz.ord40:Nat→List Nat×List (Nat×List Nat)
 | 8=>([0,0,2,6,0,0,32,96,240,496,1022,2046,4095,8191],[(0,[]),(1,[]),(2,[]),(3,[]),(4,[]),(5,[]),(6,[]),(7,[]),(8,[]),(9,[]),(10,[]),(11,[]),(12,[]),(13,[])])
 | _=>([],[])
def Tryz.ord44:Nat→List Nat×List (Nat×List Nat)
 | 5=>([0,0,3,7,0,0,48,112,255,511],[(0,[]),(1,[]),(2,[]),(3,[]),(4,[]),(5,[]),(6,[]),(7,[]),(8,[]),(9,[])])
 | _=>([],[])
def Tryz.ord50:Nat→List Nat×List (Nat×List Nat)
 | 5=>([0,0,3,7,0,0,48,112,255,511],[(0,[]),(1,[]),(2,[]),(3,[]),(4,[]),(5,[]),(6,[]),(7,[]),(8,[]),(9,[])])
 | _=>([],[])
def Tryz.ord51:Nat→List Nat×List (Nat×List Nat)
 | 5=>([0,0,3,7,0,0,48,112,255,511],[(0,[]),(1,[]),(2,[]),(3,[]),(4,[]),(5,[]),(6,[]),(7,[]),(8,[]),(9,[])])
 | _=>([],[])
def Tryz.ord57:Nat→List Nat×List (Nat×List Nat)
 | 17=>([0,1,3,3,11,3,59,123,3,259,3,1795,3843,7939,3,3,3,98307,229379,3,1015811,2064387,4194303,8388607,16777215],[(0,[]),(1,[]),(2,[]),(3,[]),(4,[]),(5,[]),(6,[]),(7,[]),(8,[]),(9,[]),(10,[]),(11,[]),(12,[]),(14,[]),(15,[]),(16,[]),(17,[]),(18,[]),(19,[]),(20,[]),(21,[]),(13,[2,4,7,18,21]),(22,[]),(23,[]),(24,[])])
 | _=>([],[])
def Tryz.ord64:Nat→List Nat×List (Nat×List Nat)
 | 3=>([0,1,0,0,0,0,32,124,255,0,0,1024,3072,0,8192,32508,65535,131071],[(0,[]),(1,[]),(2,[]),(3,[]),(4,[]),(5,[]),(6,[]),(9,[]),(10,[]),(11,[]),(12,[]),(13,[]),(14,[]),(7,[1,11,14]),(8,[]),(15,[1]),(16,[]),(17,[])])
 | _=>([],[])
def Tryz.ord78:Nat→List Nat×List (Nat×List Nat)
 | 1=>([0,0,2,0,8,0,0,64,0,256,992,2046,4095,8191],[(0,[]),(1,[]),(2,[]),(3,[]),(4,[]),(5,[]),(6,[]),(7,[]),(8,[]),(9,[]),(10,[2,4]),(11,[]),(12,[]),(13,[])])
 | _=>([],[])
def Tryz.ord79:Nat→List Nat×List (Nat×List Nat)
 | 9=>([0,1,3,0,8,31,0,64,255,31,1023,2047,4095],[(0,[]),(1,[]),(3,[]),(4,[]),(6,[]),(7,[]),(2,[4,6]),(9,[]),(5,[6]),(8,[]),(10,[]),(11,[]),(12,[])])
 | _=>([],[])
def Tryz.ord80:Nat→List Nat×List (Nat×List Nat)
 | 2=>([0,1,0,4,15,31,63,127,255,511,1023,1023,3071,8191,16383,1023,1023,66559,230399,492543,1048575,2097151,4194303],[(0,[]),(1,[]),(2,[]),(3,[]),(4,[]),(5,[]),(6,[]),(7,[]),(8,[]),(9,[]),(10,[]),(11,[]),(12,[]),(13,[]),(14,[]),(15,[]),(16,[]),(17,[]),(18,[]),(19,[]),(20,[]),(21,[]),(22,[])])
 | 8=>([0,0,2,7,15,0,32,127,255],[(0,[]),(1,[]),(2,[]),(3,[]),(4,[]),(5,[]),(6,[]),(7,[]),(8,[])])
 | 14=>([0,0,2,7,15,0,0,64,224,480,1023,0,0,4096,14336,30720,0,0,131072,458752,983040,2095104,4194303,0,8388608,33554431,67108863],[(0,[]),(1,[]),(2,[]),(3,[]),(4,[]),(5,[]),(6,[]),(7,[]),(8,[]),(9,[]),(10,[]),(11,[]),(12,[]),(13,[]),(14,[]),(15,[]),(16,[]),(17,[]),(18,[]),(19,[]),(20,[]),(21,[]),(22,[]),(23,[]),(24,[]),(25,[]),(26,[])])
 | _=>([],[])
def Tryz.ord92:Nat→List Nat×List (Nat×List Nat)
 | 1=>([0,1,3,0,0,16,63,55,255,511,1023],[(0,[]),(1,[]),(2,[2]),(3,[]),(4,[]),(5,[]),(7,[]),(6,[]),(8,[]),(9,[]),(10,[])])
 | _=>([],[])
def Tryz.ord111:Nat→List Nat×List (Nat×List Nat)
 | 4=>([0,1,3,0,0,0,32,120,255,0,1023],[(0,[]),(1,[]),(2,[]),(3,[]),(4,[]),(5,[]),(6,[]),(7,[2]),(8,[]),(9,[]),(10,[])])
 | _=>([],[])
def Tryz.ord117:Nat→List Nat×List (Nat×List Nat)
 | 16=>([0,0,3,7,0,16,63,127,255],[(0,[]),(1,[]),(2,[]),(3,[]),(4,[]),(5,[]),(6,[]),(7,[]),(8,[])])
 | _=>([],[])
def Tryz.ord124:Nat→List Nat×List (Nat×List Nat)
 | 1=>([0,0,2,6,15,0,0,64,192,511,1023,0,4095],[(0,[]),(1,[]),(2,[]),(3,[]),(5,[]),(6,[]),(7,[]),(8,[]),(4,[8]),(9,[]),(10,[]),(11,[]),(12,[])])
 | 5=>([0,1,0,0,12,31,0,64,0,0,796,2012,4095,8191],[(0,[]),(1,[]),(2,[]),(3,[]),(6,[]),(7,[]),(8,[]),(9,[]),(4,[1,7,9]),(5,[]),(10,[1,7]),(11,[]),(12,[]),(13,[])])
 | _=>([],[])
def Tryz.ord126:Nat→List Nat×List (Nat×List Nat)
 | 1=>([0,0,0,6,15,31,63,63,127,511],[(0,[]),(1,[]),(2,[]),(3,[0]),(4,[]),(5,[]),(6,[]),(7,[]),(8,[]),(9,[])])
 | _=>([],[])
def Tryz.ord141:Nat→List Nat×List (Nat×List Nat)
 | 17=>([0,1,3,7,7,23,63,127,7,7,775,1799,4095,8191,16383],[(0,[]),(1,[]),(2,[]),(3,[]),(4,[]),(5,[]),(6,[]),(7,[]),(8,[]),(9,[]),(10,[]),(11,[]),(12,[]),(13,[]),(14,[])])
 | _=>([],[])
def Tryz.ord147:Nat→List Nat×List (Nat×List Nat)
 | 17=>([0,0,2,1,15],[(0,[]),(1,[]),(2,[]),(3,[2]),(4,[])])
 | _=>([],[])
def Tryz.ord159:Nat→List Nat×List (Nat×List Nat)
 | 5=>([0,0,0,4,14,30,63,127],[(0,[]),(1,[]),(2,[]),(3,[]),(4,[0]),(5,[]),(6,[]),(7,[])])
 | _=>([],[])
def Tryz.ord179:Nat→List Nat×List (Nat×List Nat)
 | 17=>([0,1,3,7,7,7,39,119,247,7,7,1543,3591,8191,16383,32767,65535],[(0,[]),(1,[]),(2,[]),(3,[]),(4,[]),(5,[]),(6,[]),(7,[]),(8,[]),(9,[]),(10,[]),(11,[]),(12,[]),(13,[]),(14,[]),(15,[]),(16,[])])
 | _=>([],[])
def Tryz.ord182:Nat→List Nat×List (Nat×List Nat)
 | 4=>([0,0,3,7,15,15,63,127,15,15,527,1807,3855,8191,16383],[(0,[]),(1,[]),(2,[]),(3,[]),(4,[]),(5,[]),(6,[]),(7,[]),(8,[]),(9,[]),(10,[]),(11,[]),(12,[]),(13,[]),(14,[])])
 | 6=>([0,0,0,0,8,0,0,64,224,480,0,0,3072,7168,16355,32739,65535,131071],[(0,[]),(1,[]),(2,[]),(3,[]),(4,[]),(5,[]),(6,[]),(7,[]),(8,[]),(9,[]),(10,[]),(11,[]),(12,[]),(13,[]),(14,[]),(15,[]),(16,[]),(17,[])])
 | _=>([],[])
def Tryz.ord187:Nat→List Nat×List (Nat×List Nat)
 | 5=>([0,0,3,7,15,15,63,127,15,15,527,1807,3855,8191,16383,32767],[(0,[]),(1,[]),(2,[]),(3,[]),(4,[]),(5,[]),(6,[]),(7,[]),(8,[]),(9,[]),(10,[]),(11,[]),(12,[]),(13,[]),(14,[]),(15,[])])
 | 11=>([0,0,0,0,8,0,0,64,224,480,0,0,3072,7168,16355,32739,65535,131071],[(0,[]),(1,[]),(2,[]),(3,[]),(4,[]),(5,[]),(6,[]),(7,[]),(8,[]),(9,[]),(10,[]),(11,[]),(12,[]),(13,[]),(14,[]),(15,[]),(16,[]),(17,[])])
 | 16=>([0,0,3,7,0,0,32,112,240,511,1023],[(0,[]),(1,[]),(2,[]),(3,[]),(4,[]),(5,[]),(6,[]),(7,[]),(8,[]),(9,[]),(10,[])])
 | 17=>([0,0,0,0,8,0,0,64,224,480,0,0,3072,7168,16355,32739,65535,131071],[(0,[]),(1,[]),(2,[]),(3,[]),(4,[]),(5,[]),(6,[]),(7,[]),(8,[]),(9,[]),(10,[]),(11,[]),(12,[]),(13,[]),(14,[]),(15,[]),(16,[]),(17,[])])
 | 22=>([0,0,3,7,0,0,32,112,240,511,1023],[(0,[]),(1,[]),(2,[]),(3,[]),(4,[]),(5,[]),(6,[]),(7,[]),(8,[]),(9,[]),(10,[])])
 | 23=>([0,0,0,0,8,0,0,64,224,480,0,0,3072,7168,16355,32739,65535,131071],[(0,[]),(1,[]),(2,[]),(3,[]),(4,[]),(5,[]),(6,[]),(7,[]),(8,[]),(9,[]),(10,[]),(11,[]),(12,[]),(13,[]),(14,[]),(15,[]),(16,[]),(17,[])])
 | _=>([],[])
def Tryz.ord208:Nat→List Nat×List (Nat×List Nat)
 | 4=>([0,1,3,7,15,0,32,96,255,511],[(0,[]),(1,[]),(2,[]),(3,[]),(4,[]),(5,[]),(6,[]),(7,[]),(8,[]),(9,[])])
 | 15=>([0,0,2,6,0,16,48,127,0,256,768,2047,4095,8191,16383],[(0,[]),(1,[]),(2,[]),(3,[]),(4,[]),(5,[]),(6,[]),(8,[]),(9,[]),(10,[]),(7,[10]),(11,[]),(12,[]),(13,[]),(14,[])])
 | _=>([],[])
def Tryz.ord210:Nat→List Nat×List (Nat×List Nat)
 | 4=>([0,0,3,7,15,15,15,111,239,15,15,1039,3599,7695,16383,32767,65535],[(0,[]),(1,[]),(2,[]),(3,[]),(4,[]),(5,[]),(6,[]),(7,[]),(8,[]),(9,[]),(10,[]),(11,[]),(12,[]),(13,[]),(14,[]),(15,[]),(16,[])])
 | 6=>([0,0,0,0,8,0,0,64,224,480,0,0,3072,7168,16355,32739,65535,131071],[(0,[]),(1,[]),(2,[]),(3,[]),(4,[]),(5,[]),(6,[]),(7,[]),(8,[]),(9,[]),(10,[]),(11,[]),(12,[]),(13,[]),(14,[]),(15,[]),(16,[]),(17,[])])
 | _=>([],[])
def Tryz.ord229:Nat→List Nat×List (Nat×List Nat)
 | 1=>([0,1,3,7,15,0,32,96,255,511],[(0,[]),(1,[]),(2,[]),(3,[]),(4,[]),(5,[]),(6,[]),(7,[]),(8,[]),(9,[])])
 | _=>([],[])
def Tryz.ord230:Nat→List Nat×List (Nat×List Nat)
 | 1=>([0,1,3,0,8,24,63,0,128,384,0,1024,3072,8064,16383,32767],[(0,[]),(1,[]),(2,[]),(3,[]),(4,[]),(5,[]),(6,[]),(7,[]),(8,[]),(9,[]),(10,[]),(11,[]),(12,[]),(13,[]),(14,[]),(15,[])])
 | _=>([],[])
def Tryz.ord236:Nat→List Nat×List (Nat×List Nat)
 | 1=>([0,0,3,7,0,0,48,112,255],[(0,[]),(1,[]),(2,[]),(3,[]),(4,[]),(5,[]),(6,[]),(7,[]),(8,[])])
 | _=>([],[])
def Tryz.ord257:Nat→List Nat×List (Nat×List Nat)
 | 1=>([0,0,2,6,0,16,48,127,0,256,768,2047,0,4096,12288,28672,61440,0,131072,393216,917504,1966080,4194303,8388607],[(0,[]),(1,[]),(2,[]),(3,[]),(4,[]),(5,[]),(6,[]),(8,[]),(9,[]),(10,[]),(12,[]),(13,[]),(14,[]),(15,[]),(16,[]),(17,[]),(18,[]),(19,[]),(20,[]),(21,[]),(7,[10,15,20]),(11,[]),(22,[]),(23,[])])
 | _=>([],[])
def Tryz.ord258:Nat→List Nat×List (Nat×List Nat)
 | 1=>([0,1,3,7,15,0,32,96,224,480,1023,2047],[(0,[]),(1,[]),(2,[]),(3,[]),(4,[]),(5,[]),(6,[]),(7,[]),(8,[]),(9,[]),(10,[]),(11,[])])
 | _=>([],[])
end Go.Proofs
namespace Go.Proofs
def kq(b:Bool):List Nat→Nat→Bool
 | [],_=>b
 | a::l,t=>if t<a then b else kq (!b) l t
@[simp,go_sem] theorem kq_t{a t:Nat}{l:List Nat}:kq true (a::l) t=if t<a then true else kq false l t:=rfl
@[simp,go_sem] theorem kq_f{a t:Nat}{l:List Nat}:kq false (a::l) t=if t<a then false else kq true l t:=rfl
@[simp,go_sem] theorem kq_n{b:Bool}{t:Nat}:kq b [] t=b:=rfl
def Tryz.kp17(t:Nat):Bool:=kq true [1,2,5,6,23,58,59,62,63,111,112,114,115,155,156,170,171,194,195,209,210,215,216,231,232] t
def Tryz.kp19(t:Nat):Bool:=kq true [1,2,5,10,11] t
def Tryz.kp20(t:Nat):Bool:=kq true [4,8,18,39,40,43,44,61,62,81,82] t
def Tryz.kp21(t:Nat):Bool:=kq true [3,6,7] t
def Tryz.kp22(t:Nat):Bool:=kq true [4,5,7,14,15] t
def Tryz.kp30(t:Nat):Bool:=kq true [6,17,18] t
def Tryz.kp38(t:Nat):Bool:=kq true [2,4,5,6,7] t
def Tryz.kp39(t:Nat):Bool:=kq true [2,4,5,7,8] t
def Tryz.kp40(t:Nat):Bool:=kq true [7,8,9,15,16,18,22] t
def Tryz.kp44(t:Nat):Bool:=kq true [2,4,7,18,19] t
def Tryz.kp50(t:Nat):Bool:=kq true [2,4,7,18,19] t
def Tryz.kp51(t:Nat):Bool:=kq true [2,4,7,18,19] t
def Tryz.kp60(t:Nat):Bool:=kq true [2,4,5] t
def Tryz.kp61(t:Nat):Bool:=kq true [3,6,7] t
def Tryz.kp64(t:Nat):Bool:=kq true [4,5,7,8,13,50,51,61,62] t
def Tryz.kp69(t:Nat):Bool:=kq true [6,8,11,15,16,35,36] t
def Tryz.kp76(t:Nat):Bool:=kq true [8,14,15,18,21] t
def Tryz.kp77(t:Nat):Bool:=kq true [6] t
def Tryz.kp78(t:Nat):Bool:=kq true [2,3,5] t
def Tryz.kp79(t:Nat):Bool:=kq true [8,11,12,20,21,26,27,41,42] t
def Tryz.kp80(t:Nat):Bool:=kq true [3,6,11,49,50,52,53,54,55,73,74,80,81] t
def Tryz.kp84(t:Nat):Bool:=kq true [3,4,9,10,12,18,19,21,25,28,29,36,37] t
def Tryz.kp85(t:Nat):Bool:=kq true [1,2,7,9,10,11,12,19,20] t
def Tryz.kp88(t:Nat):Bool:=kq true [1,2,3] t
def Tryz.kp92(t:Nat):Bool:=kq true [3] t
def Tryz.kp99(t:Nat):Bool:=kq true [3,6,7] t
def Tryz.kp102(t:Nat):Bool:=kq true [1,2,4] t
def Tryz.kp103(t:Nat):Bool:=kq true [7,10,11] t
def Tryz.kp106(t:Nat):Bool:=kq true [2,4,5] t
def Tryz.kp107(t:Nat):Bool:=kq true [3,4,7,9,11,13,14] t
def Tryz.kp111(t:Nat):Bool:=kq true [6,8,11,25,26] t
def Tryz.kp112(t:Nat):Bool:=kq true [1,2,6,8,10,13,14] t
def Tryz.kp117(t:Nat):Bool:=kq true [3,4,11,15,16,22,23,31,32,37,38,45,48] t
def Tryz.kp120(t:Nat):Bool:=kq true [1,2,3,4,5] t
def Tryz.kp121(t:Nat):Bool:=kq true [1,2,3,4,5] t
def Tryz.kp122(t:Nat):Bool:=kq true [5,10,11] t
def Tryz.kp123(t:Nat):Bool:=kq true [6,9,10,16,17] t
def Tryz.kp124(t:Nat):Bool:=kq true [2,4,6,7,8,19,23] t
def Tryz.kp125(t:Nat):Bool:=kq true [4] t
def Tryz.kp126(t:Nat):Bool:=kq true [3,4,10,11,13,22,23,25,29,37,38] t
def Tryz.kp127(t:Nat):Bool:=kq true [3,4,5,6,9,13,14,18,19,24,28,30,31,39,40,45,46,56,57,58,62,70,71] t
def Tryz.kp128(t:Nat):Bool:=kq true [3,4,9,13,14,20,21,29,30,41,42,54,56,74,75] t
def Tryz.kp129(t:Nat):Bool:=kq true [3,4,6] t
def Tryz.kp133(t:Nat):Bool:=kq true [5,6,13,14,16,24,25,32,33,35,36,47,48,49,50,61,62] t
def Tryz.kp136(t:Nat):Bool:=kq true [6,7,8,12,15,19,22,26,27,29,33,41,42] t
def Tryz.kp137(t:Nat):Bool:=kq true [6,8,9,10,13,16,17] t
def Tryz.kp138(t:Nat):Bool:=kq true [2,4,5] t
def Tryz.kp139(t:Nat):Bool:=kq true [2,4,13,19,20,28,29,35,36] t
def Tryz.kp140(t:Nat):Bool:=kq true [2,4,5] t
def Tryz.kp141(t:Nat):Bool:=kq true [4,8,19,23,24,29,30,35,36,50,51,68,69,72,73,87,88,113,114] t
def Tryz.kp142(t:Nat):Bool:=kq true [1,2,3] t
def Tryz.kp143(t:Nat):Bool:=kq true [1,2,3] t
def Tryz.kp144(t:Nat):Bool:=kq true [4,6,8,9,10,12,16,27,28] t
def Tryz.kp146(t:Nat):Bool:=kq true [4,5,7,31,32,39,40,45,49,51,52,59,60,68,69] t
def Tryz.kp147(t:Nat):Bool:=kq true [10,15,19,34,37,54,55] t
def Tryz.kp150(t:Nat):Bool:=kq true [5] t
def Tryz.kp151(t:Nat):Bool:=kq true [7,10,13,16,19,24,25] t
def Tryz.kp155(t:Nat):Bool:=kq true [2,4,5] t
def Tryz.kp156(t:Nat):Bool:=kq true [3,4,5] t
def Tryz.kp157(t:Nat):Bool:=kq true [2,4,5] t
def Tryz.kp158(t:Nat):Bool:=kq true [1,2,3] t
def Tryz.kp159(t:Nat):Bool:=kq true [4,5,6,7,11] t
def Tryz.kp160(t:Nat):Bool:=kq true [3,4,7,10,11,13,14] t
def Tryz.kp161(t:Nat):Bool:=kq true [3,4,5,11,12] t
def Tryz.kp162(t:Nat):Bool:=kq true [3,6,7] t
def Tryz.kp169(t:Nat):Bool:=kq true [3,4,5,6,8,13,14] t
def Tryz.kp170(t:Nat):Bool:=kq true [2,4,6,7,8,9,10,11,15,19,23] t
def Tryz.kp171(t:Nat):Bool:=kq true [4] t
def Tryz.kp178(t:Nat):Bool:=kq true [1,2,3] t
def Tryz.kp179(t:Nat):Bool:=kq true [5,10,21,25,26,32,33,39,40,56,57,75,76,80,81,97,98,125,126] t
def Tryz.kp180(t:Nat):Bool:=kq true [2,4,7,11,14,16,17,19,20] t
def Tryz.kp181(t:Nat):Bool:=kq true [2,4,6,7,10,16,17] t
def Tryz.kp182(t:Nat):Bool:=kq true [3,6,8,12,13,30,31] t
def Tryz.kp185(t:Nat):Bool:=kq true [3,6,13,32,33,34,35,49,50,51,52,54,55] t
def Tryz.kp187(t:Nat):Bool:=kq true [3,6,11,14,15,32,33,37,38,41,42,61,62,65,66,78,79,98,99,103,104,116,117] t
def Tryz.kp188(t:Nat):Bool:=kq true [2,4,5] t
def Tryz.kp192(t:Nat):Bool:=kq true [1,2,3,4,5,8,9,14,15] t
def Tryz.kp193(t:Nat):Bool:=kq true [6] t
def Tryz.kp199(t:Nat):Bool:=kq true [5] t
def Tryz.kp200(t:Nat):Bool:=kq true [7,8,10,14,15,21,22,36,37,51,52] t
def Tryz.kp201(t:Nat):Bool:=kq true [2,4,6,7,10,16,17] t
def Tryz.kp202(t:Nat):Bool:=kq true [3,4,8] t
def Tryz.kp203(t:Nat):Bool:=kq true [5] t
def Tryz.kp204(t:Nat):Bool:=kq true [7,8,9,10,12,16,21,26,27,44,45,55,56] t
def Tryz.kp208(t:Nat):Bool:=kq true [2,3,11,12,14,38,39,48,49,55,57,73,74] t
def Tryz.kp209(t:Nat):Bool:=kq true [1,2,3] t
def Tryz.kp210(t:Nat):Bool:=kq true [4,8,10,14,15,34,35] t
def Tryz.kp218(t:Nat):Bool:=kq true [1,2,3] t
def Tryz.kp223(t:Nat):Bool:=kq true [5,10,11] t
def Tryz.kp229(t:Nat):Bool:=kq true [6] t
def Tryz.kp230(t:Nat):Bool:=kq true [4,6,7] t
def Tryz.kp232(t:Nat):Bool:=kq true [1,2,3] t
def Tryz.kp236(t:Nat):Bool:=kq true [4,8,10,18,19] t
def Tryz.kp257(t:Nat):Bool:=kq true [5] t
def Tryz.kp258(t:Nat):Bool:=kq true [5] t
end Go.Proofs
namespace Go.Proofs
open Go Go.Mu
theorem agg_len4{xs:List Int}(h:xs.length=4):∃x1 x2 x3 x4,xs=[x1,x2,x3,x4]:=by
 match xs,h with
 | [x1,x2,x3,x4],_=>exact⟨x1,x2,x3,x4,rfl⟩
theorem agg_len2{xs:List Int}(h:xs.length=2):∃x1 x2,xs=[x1,x2]:=by
 match xs,h with
 | [x1,x2],_=>exact⟨x1,x2,rfl⟩
theorem Tryz.ck3r(e:Bool)(d:Nat)(x:Int)(w:World):(Instr.checkKey e (d+1) 3 (.int .i64 x)).run Tryz.prog w= .ok () w:=by
 have hu:∀w,(underlying 3).run Tryz.prog w= .ok (.int .i64) w:=fun w=>run_underlying Tryz.underlying3 w
 simp only[Instr.checkKey,Sem.run_bind,hu,Result.andThen_ok,Sem.run_pure]
theorem Tryz.eq26r(d:Nat)(a1 a2 b1 b2:Int)(w:World):(Op.equalIn (d+2) 26 (.agg #[.int .i64 a1,.int .i64 a2]) (.agg #[.int .i64 b1,.int .i64 b2])).run Tryz.prog w= .ok (a1==b1&&(a2==b2)) w:=by
 rw[run_equalIn_struct w (d+1) 26 _ _ (by simp only[Program.fieldsOf,Tryz.underlying26]) (by kernel_rfl)]
 simp only[Program.fieldsOf,Tryz.underlying26]
 have ha3:∀w,(isAgg 3).run Tryz.prog w= .ok false w:=fun w=>run_agg (ty:=Tryz.ty) Tryz.tysOK (by rw[Tryz.ty3];rfl) w
 have hs3:∀w,(Go.sizeOf 3).run Tryz.prog w= .ok 1 w:=fun w=>run_size (ty:=Tryz.ty) Tryz.tysOK (by rw[Tryz.ty3];simp) w
 by_cases h1:a1=b1<;> by_cases h2:a2=b2<;> simp[Op.eqFields,part,ha3,hs3,run_equalIn_int _ _ _ _ _ _ _ Tryz.underlying3,h1,h2]
theorem Tryz.eq127r(d:Nat)(a1 a2 a3 a4 b1 b2 b3 b4:Int)(w:World):(Op.equalIn (d+2) 127 (.agg #[.int .i64 a1,.int .i64 a2,.int .i64 a3,.int .i64 a4]) (.agg #[.int .i64 b1,.int .i64 b2,.int .i64 b3,.int .i64 b4])).run Tryz.prog w= .ok (a1==b1&&(a2==b2&&(a3==b3&&(a4==b4)))) w:=by
 have hu:∀w,(underlying 127).run Tryz.prog w= .ok (.array 4 3) w:=fun w=>run_underlying Tryz.underlying127 w
 have ha3:∀w,(isAgg 3).run Tryz.prog w= .ok false w:=fun w=>run_agg (ty:=Tryz.ty) Tryz.tysOK (by rw[Tryz.ty3];rfl) w
 have hs3:∀w,(Go.sizeOf 3).run Tryz.prog w= .ok 1 w:=fun w=>run_size (ty:=Tryz.ty) Tryz.tysOK (by rw[Tryz.ty3];simp) w
 rw[show d+2=(d+1)+1 from rfl,Op.equalIn]
 by_cases h1:a1=b1<;> by_cases h2:a2=b2<;> by_cases h3:a3=b3<;> by_cases h4:a4=b4<;> simp[hu,Std.Legacy.Range.forIn_eq_forIn_range',Std.Legacy.Range.size,List.range',part,ha3,hs3,run_equalIn_int _ _ _ _ _ _ _ Tryz.underlying3,h1,h2,h3,h4]
theorem Tryz.ck127r(e:Bool)(d:Nat)(a1 a2 a3 a4:Int)(w:World):(Instr.checkKey e (d+2) 127 (.agg #[.int .i64 a1,.int .i64 a2,.int .i64 a3,.int .i64 a4])).run Tryz.prog w= .ok () w:=by
 have hu:=fun w=>run_underlying Tryz.underlying127 w
 have ha3:∀w,(isAgg 3).run Tryz.prog w= .ok false w:=fun w=>run_agg (ty:=Tryz.ty) Tryz.tysOK (by rw[Tryz.ty3];rfl) w
 have hs3:∀w,(Go.sizeOf 3).run Tryz.prog w= .ok 1 w:=fun w=>run_size (ty:=Tryz.ty) Tryz.tysOK (by rw[Tryz.ty3];simp) w
 rw[show d+2=(d+1)+1 from rfl,Instr.checkKey]
 simp[hu,Std.Legacy.Range.forIn_eq_forIn_range',Std.Legacy.Range.size,List.range',part,ha3,hs3,Tryz.ck3r]
theorem Tryz.eqsOK:EqsOK Tryz.prog Tryz.ty:=by
 have heqn:∀t,(Tryz.ty t).eqn=true→t=26∨t=127:=by
  intro t ht
  unfold Tryz.ty tyOf at ht
  cases hf:Tryz.tyl.find? (fun p=>p.1==t) with
  | none=>rw[hf] at ht;cases ht
  | some p=>
   have h1:=List.mem_of_find?_eq_some hf
   have h2:=List.find?_some hf
   simp at h2;subst h2
   rw[hf] at ht
   have h3:(Tryz.tyl.all fun p=> !p.2.eqn||(p.1==26||p.1==127))=true:=rfl
   have h4:=List.all_eq_true.1 h3 p h1
   have ht':p.2.eqn=true:=ht
   simpa[ht',or_assoc] using h4
 have hkeyn:∀t,(Tryz.ty t).keyn=true→t=127:=by
  intro t ht
  unfold Tryz.ty tyOf at ht
  cases hf:Tryz.tyl.find? (fun p=>p.1==t) with
  | none=>rw[hf] at ht;cases ht
  | some p=>
   have h1:=List.mem_of_find?_eq_some hf
   have h2:=List.find?_some hf
   simp at h2;subst h2
   rw[hf] at ht
   have h3:(Tryz.tyl.all fun p=> !p.2.keyn||(p.1==127))=true:=rfl
   have h4:=List.all_eq_true.1 h3 p h1
   have ht':p.2.keyn=true:=ht
   simpa[ht',or_assoc] using h4
 refine⟨fun t ht=>?_,fun t ht xs ys w h1 h2=>?_,fun t ht=>?_,fun t ht xs ys w h1 h2=>?_,fun t ht e xs w h1=>?_⟩
 ·rcases heqn t ht with rfl | rfl<;> kernel_rfl
 ·rcases heqn t ht with rfl | rfl
  ·obtain⟨u1,u2,rfl⟩:=agg_len2 h1
   obtain⟨v1,v2,rfl⟩:=agg_len2 h2
   have:=Tryz.eq26r 9998 u1 u2 v1 v2 w
   simpa[Op.equal,Op.maxDepth] using this
  ·obtain⟨u1,u2,u3,u4,rfl⟩:=agg_len4 h1
   obtain⟨v1,v2,v3,v4,rfl⟩:=agg_len4 h2
   have:=Tryz.eq127r 9998 u1 u2 u3 u4 v1 v2 v3 v4 w
   simpa[Op.equal,Op.maxDepth] using this
 ·rcases hkeyn t ht with rfl<;> (intro h;cases h)
 ·rcases hkeyn t ht with rfl
  ·obtain⟨u1,u2,u3,u4,rfl⟩:=agg_len4 h1
   obtain⟨v1,v2,v3,v4,rfl⟩:=agg_len4 h2
   have:=Tryz.eq127r 9998 u1 u2 u3 u4 v1 v2 v3 v4 w
   simpa[Op.equal,Op.maxDepth] using this
 ·rcases hkeyn t ht with rfl
  ·obtain⟨u1,u2,u3,u4,rfl⟩:=agg_len4 h1
   exact Tryz.ck127r e 9998 u1 u2 u3 u4 w
theorem method_of{P:Program}{t:TypeId}{s:String}{f:FuncId}{fs:Array Field}(h1:((P.info? t).bind fun i=>i.methods.find? fun m=>m.name==s).map (fun m=>(m.path.toList,m.func))=some ([],some (f,false)))
  (h2:P.underlying t=some (.struct fs)) (n:Nat) (c:Value) (w:World):(method (n+1) t c s).run P w= .ok (f,c) w:=by
 cases hi:P.info? t with
 | none=>rw[hi] at h1;cases h1
 | some i=>
  rw[hi] at h1
  simp only[Option.bind_some] at h1
  cases hm:i.methods.find? (fun m=>m.name==s) with
  | none=>rw[hm] at h1;cases h1
  | some m=>
   rw[hm] at h1
   simp only[Option.map_some,Option.some.injEq,Prod.mk.injEq] at h1
   obtain⟨hp,hf⟩:=h1
   have hpe:m.path= #[]:=by apply Array.ext';simpa using hp
   simp[method,typeInfo,underlying,hi,hm,hpe,hf,follow,receiverAt,h2,Place.get,Sem.run_bind,Result.andThen_ok]
theorem method_tm{P:Program}{t:TypeId}{s:String}{f:FuncId}{fs:Array Field}(h1:((P.info? t).bind fun i=>i.methods.find? fun m=>m.name==s).map (fun m=>(m.path.toList,m.func))=some ([],some (f,false)))
  (h2:P.underlying t=some (.struct fs)) (n:Nat) (c:Value):Tm P (method (n+1) t c s) fun r=>r.1=f:=by
 unfold method typeInfo
 refine Tm_bind (Tm_bind (Tm_program ?_))
 split
 ·rename_i i hi
  rw[hi] at h1
  simp only[Option.bind_some] at h1
  refine Tm_pure ?_
  cases hm:i.methods.find? (fun m=>m.name==s) with
  | none=>rw[hm] at h1;cases h1
  | some m=>
   rw[hm] at h1
   simp only[Option.map_some,Option.some.injEq,Prod.mk.injEq] at h1
   obtain⟨hp,hf⟩:=h1
   have hpe:m.path= #[]:=by apply Array.ext';simpa using hp
   simp only[hpe,hf,follow]
   refine Tm_bind (Tm_pure ?_)
   refine Tm_bind ?_
   unfold receiverAt
   refine Tm_bind (Tm_underlyingP fun d hd=>?_)
   rw[h2] at hd
   simp only[Option.some.injEq] at hd
   subst hd
   exact rfl
 ·trivial
def Tryz.mt(t:TypeId)(s:String):Option FuncId:=if s= "musette/meter.is" then(if t=252 then some 229 else if t=254 then some 257 else if t=255 then some 258 else none) else none
theorem Tryz.mtOK(t:TypeId)(s:String)(f:FuncId)(h:Tryz.mt t s=some f)(c:Value)(w:World):(method (Tryz.prog.types.size+Made.depth) t c s).run Tryz.prog w= .ok (f,c) w:=by
 have hn:Tryz.prog.types.size+Made.depth=(Tryz.prog.types.size+(Made.depth-1))+1:=by
  have:1≤Made.depth:=by decide
  omega
 rw[hn]
 unfold Tryz.mt at h
 split at h
 ·rename_i hs;subst hs
  split at h
  ·rename_i ht;subst ht;simp at h;subst h
   exact method_of (by kernel_rfl) Tryz.underlying252 _ c w
  ·split at h
   ·rename_i ht;subst ht;simp at h;subst h
    exact method_of (by kernel_rfl) Tryz.underlying254 _ c w
   ·split at h
    ·rename_i ht;subst ht;simp at h;subst h
     exact method_of (by kernel_rfl) Tryz.underlying255 _ c w
    ·cases h
 ·cases h
set_option maxRecDepth 200000 in
theorem Tryz.mtOKT(t:TypeId)(s:String)(f:FuncId)(h:Tryz.mt t s=some f)(c:Value):Tm Tryz.prog (method (Tryz.prog.types.size+Made.depth) t c s) fun r=>r.1=f:=by
 have hn:Tryz.prog.types.size+Made.depth=(Tryz.prog.types.size+(Made.depth-1))+1:=by
  have:1≤Made.depth:=by decide
  omega
 rw[hn]
 unfold Tryz.mt at h
 split at h
 ·rename_i hs;subst hs
  split at h
  ·rename_i ht;subst ht;simp at h;subst h
   exact method_tm (by kernel_rfl) Tryz.underlying252 _ c
  ·split at h
   ·rename_i ht;subst ht;simp at h;subst h
    exact method_tm (by kernel_rfl) Tryz.underlying254 _ c
   ·split at h
    ·rename_i ht;subst ht;simp at h;subst h
     exact method_tm (by kernel_rfl) Tryz.underlying255 _ c
    ·cases h
 ·cases h
noncomputable def Tryz.E {S:MC Tryz.prog} (N:Nat) (ord:Nat→List Nat×List (Nat×List Nat)) (fs:FuncId→List AV→Option AV):Env:={P:=Tryz.prog,S:=S,ty:=Tryz.ty,N:=N,mt:=Tryz.mt,ord:=ord,fs:=fs}
theorem Tryz.EN{S:MC Tryz.prog}{N:Nat}{ord:Nat→List Nat×List (Nat×List Nat)}{fs:FuncId→List AV→Option AV}:(Tryz.E (S:=S) N ord fs).N=N:=rfl
theorem Tryz.Emt{S:MC Tryz.prog}{N:Nat}{ord:Nat→List Nat×List (Nat×List Nat)}{fs:FuncId→List AV→Option AV}:(Tryz.E (S:=S) N ord fs).mt=Tryz.mt:=rfl
theorem Tryz.EP{S:MC Tryz.prog}{N:Nat}{ord:Nat→List Nat×List (Nat×List Nat)}{fs:FuncId→List AV→Option AV}:(Tryz.E (S:=S) N ord fs).P=Tryz.prog:=rfl
theorem Tryz.Ety{S:MC Tryz.prog}{N:Nat}{ord:Nat→List Nat×List (Nat×List Nat)}{fs:FuncId→List AV→Option AV}:(Tryz.E (S:=S) N ord fs).ty=Tryz.ty:=rfl
theorem Tryz.Eord{S:MC Tryz.prog}{N:Nat}{ord:Nat→List Nat×List (Nat×List Nat)}{fs:FuncId→List AV→Option AV}:(Tryz.E (S:=S) N ord fs).ord=ord:=rfl
theorem Tryz.Efs{S:MC Tryz.prog}{N:Nat}{ord:Nat→List Nat×List (Nat×List Nat)}{fs:FuncId→List AV→Option AV}:(Tryz.E (S:=S) N ord fs).fs=fs:=rfl
theorem Tryz.mt_count:Tryz.mt 252 "musette/meter.is" = some 229:=rfl
theorem Tryz.mt_beat:Tryz.mt 254 "musette/meter.is" = some 257:=rfl
theorem Tryz.mt_higher:Tryz.mt 255 "musette/meter.is" = some 258:=rfl
set_option maxRecDepth 200000 in
theorem Tryz.envOK{S:MC Tryz.prog}(N:Nat)(ord:Nat→List Nat×List (Nat×List Nat))(fs:FuncId→List AV→Option AV)(h:∀f xs v,fs f xs=some v→PureV S f xs v):EnvOK (Tryz.E (S:=S) N ord fs):=⟨Tryz.tysOK,Tryz.eqsOK,Tryz.mtOK,Tryz.mtOKT,by kernel_rfl,h⟩
def fs0:FuncId→List AV→Option AV:=fun _ _=>none
theorem fs0_ok{S:MC Tryz.prog}:∀f xs v,fs0 f xs=some v→PureV S f xs v:=fun _ _ _ h=>by cases h
theorem Callable.of{P:Program}{f:FuncId}{fn:Func}(h1:P.funcs[f]? = some fn)(h2:fn.body.isNone=false)(h3:(fn.name== "runtime.NumGoroutine")=false):Callable P f:=⟨fn,h1,h3,h2⟩
theorem Tryz.ES_{S:MC Tryz.prog}{N:Nat}{ord:Nat→List Nat×List (Nat×List Nat)}{fs:FuncId→List AV→Option AV}:(Tryz.E (S:=S) N ord fs).S=S:=rfl
attribute [go_sem] Tryz.ES_
theorem PvE{E:Env}(hE:EnvOK E){f:FuncId}{fn:Func}{c:Code}{args:List AV}{v:AV}(hp:Plain v)(kp:Nat→Bool)(hf:E.P.funcs[f]? = some fn)(hb:fn.body=some c)
  (h:∀σ,ev E none 100000 [.code c] ⟨kp,[],number 0 args⟩ σ (retPost E fn.results.toList (Gives σ v)))
  (hN:fn.ntmps=E.N:=by kernel_rfl) (hA:args.length≤E.N:=by simp[Tryz.E]) (h2:fn.body.isNone=false:=by kernel_rfl) (h3:(fn.name== "runtime.NumGoroutine")=false:=by kernel_rfl) (hO:todoOK E [.code c]=true:=by kernel_rfl):PureV E.S f args v:=
 PureV.of_ev hE hp kp hf hb hN hA (Callable.of hf h2 h3) hO h
theorem AcE{E:Env}(hE:EnvOK E){f:FuncId}{fn:Func}{c:Code}{args:List AV}{σ:List AObj}{Q:AV→List AObj→Prop}(kp:Nat→Bool)(hf:E.P.funcs[f]? = some fn)(hb:fn.body=some c)
  (h:ev E none 100000 [.code c] ⟨kp,[],number 0 args⟩ σ (retPost E fn.results.toList Q))
  (hN:fn.ntmps=E.N:=by kernel_rfl) (hA:args.length≤E.N:=by simp[Tryz.E]) (h2:fn.body.isNone=false:=by kernel_rfl) (h3:(fn.name== "runtime.NumGoroutine")=false:=by kernel_rfl) (hO:todoOK E [.code c]=true:=by kernel_rfl):ACalls E.S f args σ Q:=
 ACalls.of_ev hE kp hf hb hN hA (Callable.of hf h2 h3) hO h
attribute [go_sem ↓] ev_nil ev_inBlock ev_inScope ev_inLoop ev_skip ev_label ev_seq ev_block ev_scope ev_condI ev_exitI ev_goto
attribute [go_sem ↓] ev_ret ev_region ev_draw ev_loop evK_eq evOps_nil evOps_plain evOps_guardA evNext_none evNext_some evD_nil evD_consW
attribute [go_sem ↓] evDp_plain evPc_call evDo_plain evDo_guardA evNextD_none evNextD_some evOp_move evOp_assign evOp_pick evOp_build evOp_fieldAddr
attribute [go_sem ↓] evOp_index evOp_indexAddr evOp_nilCheck evOp_bin evOp_unOp evOp_convert evOp_makeInterface evOp_makeFunc evOp_extract evOp_typeAssert evOp_len1
attribute [go_sem ↓] evOp_max evOp_min evOp_buildSlice evOp_makeSlice evOp_alloc evOp_box evOp_load evOp_store evOp_append evOp_callF evOp_invokeI
attribute [go_sem ↓] evOp_next evOp_makeMap evOp_lookup evOp_mapUpdate evOp_range ev_rangeI ev_beginI evOp_entry
attribute [go_sem] evIf_true evIf_false exO_some exO_none getO_some guardA_tt guardA_ff guardA_ft
attribute [go_sem] guardB_tt guardB_ff guardB_tf guardB_ft guardB_tup isSelf_nil isSelf_one isSelf_two evDs_true evDs_false callP_some givP_some
attribute [go_sem] nthO_zero nthO_succ recheck_nil recheck_cons reOK_plain callF_fn callF_yield callI_some callM_some callA_eq callO_give callO_none
attribute [go_sem] isInt isStrK keyOK ne_eq pop hop litOp aeval aevals ofVal ofVal1
attribute [go_sem] ofVals binS_true binS_false isNilC_tmp isNilC_int isNilC_bool isNilC_str isNilC_nil isNilC_iface isNilC_ptr nilA_eql nilA_neq
attribute [go_sem] giveA_some giveB_giveC giveC_true giveC_false giveC_decide giveC_beq giveC_bne giveC_ndecide giveC_list giveB_int giveB_str
attribute [go_sem] giveB_agg giveB_tup giveB_list giveB_iface giveB_fn give2_some giveR_some retPost_ret retPost_none oneOf_one oneOf_nil oneOf_more
attribute [go_sem] resAs resA1 Fr.put Fr.get Fr.anew ins lookA number dstOf_zero dstOf_succ exitTo_block exitTo_code
attribute [go_sem] exitTo_loop exitTo_scope exitTo_nil binA oneA apart litA fillA putAt_cons putAt_set subAt TK.agg
attribute [go_sem] lenA lenO List.getElem?_toArray maxA maxL minA minL intsA hget_at0 hget_at hset_at0 hset_at
attribute [go_sem] hset_hset length_hset appA appB_ff appB_nil appB_cons appB_own appF appV loadV storeV ofCells
attribute [go_sem] canonL elSz canonE nilA_eqlV nilA_neqV List.append_assoc if_true if_false ite_true ite_false dite_true decide_true
attribute [go_sem] decide_false Bool.false_eq_true Bool.true_eq_false true_and and_true false_and and_false true_or or_true false_or or_false not_true_eq_false
attribute [go_sem] not_false_eq_true false_implies true_implies implies_true forall_const and_self Bool.not_true Bool.not_false Bool.true_and Bool.and_true Bool.false_and Bool.and_false
attribute [go_sem] Bool.true_or Bool.or_true Bool.false_or Bool.or_false beq_self_eq_true decide_eq_true_eq decide_eq_false_iff_not Option.isSome_some Option.isSome_none Option.map_some Option.map_none Option.bind_some
attribute [go_sem] Option.bind_none Option.some.injEq List.length_cons List.length_nil List.getElem?_cons_zero List.getElem?_cons_succ List.getElem?_nil List.take_succ_cons List.take_zero List.drop_succ_cons List.drop_zero List.take_nil
attribute [go_sem] List.drop_nil List.cons_append List.nil_append List.append_nil List.length_append List.length_map List.set_cons_zero List.set_cons_succ List.map_cons List.map_nil Nat.zero_add Nat.add_zero
attribute [go_sem] ge_iff_le gt_iff_lt post_app post_nil wk_tup wk_agg wk_int wk_bool wk_str wk_iface wk_list wk1_agg
attribute [go_sem] wk1_int wk1_bool wk1_str wk1_list wk0_int wk0_bool wk0_str wk0_list wkL_nil wkL_cons AV.int.injEq AV.bool.injEq
attribute [go_sem] AV.str.injEq upd List.all_cons List.all_nil eq_self_iff_true and_imp spec1 spec2 spec3 tI_dec
attribute [go_sem] tIs_dec tRd_dec tEar_dec tT_dec decI_int decL_ints decL_rng decL_rd
attribute [go_sem] decs_nil decs_ints decEar decRng decRd decRng_av decRd_av decT_agg
attribute [go_sem] leT leF ltT ltF eqT eqF nleT nltT wrapI tget Int.cast_ofNat_Int Int.natCast_add
attribute [go_sem] Nat.mul_one bne_self_eq_false idx_nat getElem?_at getElem?_at' set_at set_at' Rd_eta Rng_eta Rd_eta' neqT take_map
attribute [go_sem] neqF nltF cells_bool flat_bool cells_int flat_int cells_str flat_str cells_ptr flat_ptr cells_nilptr flat_nilptr
attribute [go_sem] cells_eptr flat_eptr cells_list flat_list cells_arr flat_arr cells_vec flat_vec cells_vptr flat_vptr cells_map flat_map
attribute [go_sem] cells_nilmap flat_nilmap cells_fn flat_fn cells_yield flat_yield cells_nilfn flat_nilfn cells_iface flat_iface cells_niliface flat_niliface
attribute [go_sem] cells_agg flat_agg putAt_map3 lookB updB Option.getD_some entR nextS_ptr
attribute [go_sem] nextSR_it nextSB_some nextSB_none convS_some convS_none bytesL cvO Tryz.EN Tryz.Ety Tryz.Eord Tryz.EP Tryz.Emt
attribute [go_sem] Tryz.Efs Tryz.ty1 Tryz.ty2 Tryz.ty3 Tryz.ty4 Tryz.ty5 Tryz.ty9
attribute [go_sem] Tryz.ty22 Tryz.ty23 Tryz.ty26 Tryz.ty27 Tryz.ty28 Tryz.ty30 Tryz.ty32
attribute [go_sem] Tryz.ty36 Tryz.ty37 Tryz.ty46 Tryz.ty47 Tryz.ty49 Tryz.ty51 Tryz.ty67 Tryz.ty105
attribute [go_sem] Tryz.ty114 Tryz.ty116 Tryz.ty117 Tryz.ty119 Tryz.ty120 Tryz.ty127 Tryz.ty144 Tryz.ty146 Tryz.ty164 Tryz.ty169
attribute [go_sem] Tryz.ty170 Tryz.ty179 Tryz.ty181 Tryz.ty184 Tryz.ty189 Tryz.ty190 Tryz.ty192 Tryz.ty195 Tryz.ty197 Tryz.ty198 Tryz.ty202
attribute [go_sem] Tryz.ty210 Tryz.ty213 Tryz.ty215 Tryz.ty225 Tryz.ty232 Tryz.ty234 Tryz.ty236 Tryz.ty239 Tryz.ty242 Tryz.ty243 Tryz.ty244
attribute [go_sem] Tryz.ty252 Tryz.ty254 Tryz.ty255 Tryz.ty265
attribute [go_sem] Tryz.ord17
attribute [go_sem] Tryz.ord19 Tryz.ord20 Tryz.ord25 Tryz.ord33
attribute [go_sem] Tryz.ord40 Tryz.ord44 Tryz.ord50 Tryz.ord51
attribute [go_sem] Tryz.ord57 Tryz.ord64 Tryz.ord78
attribute [go_sem] Tryz.ord79 Tryz.ord80 Tryz.ord92
attribute [go_sem] Tryz.ord111 Tryz.ord117 Tryz.ord124 Tryz.ord126 Tryz.ord141 Tryz.ord147
attribute [go_sem] Tryz.ord159 Tryz.ord179 Tryz.ord182 Tryz.ord187
attribute [go_sem] Tryz.ord208
attribute [go_sem] Tryz.ord210
attribute [go_sem] Tryz.ord229 Tryz.ord230
attribute [go_sem] Tryz.ord236 Tryz.ord257 Tryz.ord258 Tryz.results0 Tryz.results1
attribute [go_sem] Tryz.results2 Tryz.results3 Tryz.results4 Tryz.results5 Tryz.results6 Tryz.results7 Tryz.results8 Tryz.results9 Tryz.results10 Tryz.results11 Tryz.results12 Tryz.results13
attribute [go_sem] Tryz.results14 Tryz.results15 Tryz.results16 Tryz.results17 Tryz.results18 Tryz.results19 Tryz.results20 Tryz.results21 Tryz.results22 Tryz.results23 Tryz.results24 Tryz.results25
attribute [go_sem] Tryz.results26 Tryz.results27 Tryz.results28 Tryz.results29 Tryz.results30 Tryz.results31 Tryz.results32 Tryz.results33 Tryz.results34 Tryz.results35 Tryz.results36 Tryz.results37
attribute [go_sem] Tryz.results38 Tryz.results39 Tryz.results40 Tryz.results41 Tryz.results42 Tryz.results43 Tryz.results44 Tryz.results45 Tryz.results46 Tryz.results47 Tryz.results48 Tryz.results49
attribute [go_sem] Tryz.results50 Tryz.results51 Tryz.results52 Tryz.results53 Tryz.results54 Tryz.results55 Tryz.results56 Tryz.results57 Tryz.results58 Tryz.results59 Tryz.results60 Tryz.results61
attribute [go_sem] Tryz.results62 Tryz.results63 Tryz.results64 Tryz.results65 Tryz.results66 Tryz.results67 Tryz.results68 Tryz.results69 Tryz.results70 Tryz.results71 Tryz.results72 Tryz.results73
attribute [go_sem] Tryz.results74 Tryz.results75 Tryz.results76 Tryz.results77 Tryz.results78 Tryz.results79 Tryz.results80 Tryz.results81 Tryz.results82 Tryz.results83 Tryz.results84 Tryz.results85
attribute [go_sem] Tryz.results86 Tryz.results87 Tryz.results88 Tryz.results89 Tryz.results90 Tryz.results91 Tryz.results92 Tryz.results93 Tryz.results94 Tryz.results95 Tryz.results96 Tryz.results97
attribute [go_sem] Tryz.results98 Tryz.results99 Tryz.results100 Tryz.results101 Tryz.results102 Tryz.results103 Tryz.results104 Tryz.results105 Tryz.results106 Tryz.results107 Tryz.results108 Tryz.results109
attribute [go_sem] Tryz.results110 Tryz.results111 Tryz.results112 Tryz.results113 Tryz.results114 Tryz.results115 Tryz.results116 Tryz.results117 Tryz.results118 Tryz.results119 Tryz.results120 Tryz.results121
attribute [go_sem] Tryz.results122 Tryz.results123 Tryz.results124 Tryz.results125 Tryz.results126 Tryz.results127 Tryz.results128 Tryz.results129 Tryz.results130 Tryz.results131 Tryz.results132 Tryz.results133
attribute [go_sem] Tryz.results134 Tryz.results135 Tryz.results136 Tryz.results137 Tryz.results138 Tryz.results139 Tryz.results140 Tryz.results141 Tryz.results142 Tryz.results143 Tryz.results144 Tryz.results145
attribute [go_sem] Tryz.results146 Tryz.results147 Tryz.results148 Tryz.results149 Tryz.results150 Tryz.results151 Tryz.results152 Tryz.results153 Tryz.results154 Tryz.results155 Tryz.results156 Tryz.results157
attribute [go_sem] Tryz.results158 Tryz.results159 Tryz.results160 Tryz.results161 Tryz.results162 Tryz.results163 Tryz.results164 Tryz.results165 Tryz.results166 Tryz.results167 Tryz.results168 Tryz.results169
attribute [go_sem] Tryz.results170 Tryz.results171 Tryz.results172 Tryz.results173 Tryz.results174 Tryz.results175 Tryz.results176 Tryz.results177 Tryz.results178 Tryz.results179 Tryz.results180 Tryz.results181
attribute [go_sem] Tryz.results182 Tryz.results183 Tryz.results184 Tryz.results185 Tryz.results186 Tryz.results187 Tryz.results188 Tryz.results189 Tryz.results190 Tryz.results191 Tryz.results192 Tryz.results193
attribute [go_sem] Tryz.results194 Tryz.results195 Tryz.results196 Tryz.results197 Tryz.results198 Tryz.results199 Tryz.results200 Tryz.results201 Tryz.results202 Tryz.results203 Tryz.results204 Tryz.results205
attribute [go_sem] Tryz.results206 Tryz.results207 Tryz.results208 Tryz.results209 Tryz.results210 Tryz.results211 Tryz.results212 Tryz.results213 Tryz.results214 Tryz.results215 Tryz.results216 Tryz.results217
attribute [go_sem] Tryz.results218 Tryz.results219 Tryz.results220 Tryz.results221 Tryz.results222 Tryz.results223 Tryz.results224 Tryz.results225 Tryz.results226 Tryz.results227 Tryz.results228 Tryz.results229
attribute [go_sem] Tryz.results230 Tryz.results231 Tryz.results232 Tryz.results233 Tryz.results234 Tryz.results235 Tryz.results236 Tryz.results237 Tryz.results238 Tryz.results239 Tryz.results240 Tryz.results241
attribute [go_sem] Tryz.results242 Tryz.results243 Tryz.results244 Tryz.results245 Tryz.results246 Tryz.results247 Tryz.results248 Tryz.results249 Tryz.results250 Tryz.results251 Tryz.results252 Tryz.results253
attribute [go_sem] Tryz.results254 Tryz.results255 Tryz.results256 Tryz.results257 Tryz.results258 Tryz.results259
attribute [go_sem] Tryz.kp17
attribute [go_sem] Tryz.kp19 Tryz.kp20 Tryz.kp21 Tryz.kp22
attribute [go_sem] Tryz.kp30 Tryz.kp38 Tryz.kp39 Tryz.kp40
attribute [go_sem] Tryz.kp44 Tryz.kp50 Tryz.kp51
attribute [go_sem] Tryz.kp60 Tryz.kp61 Tryz.kp64
attribute [go_sem] Tryz.kp69 Tryz.kp76 Tryz.kp77
attribute [go_sem] Tryz.kp78 Tryz.kp79 Tryz.kp80 Tryz.kp84 Tryz.kp85 Tryz.kp88
attribute [go_sem] Tryz.kp92 Tryz.kp99
attribute [go_sem] Tryz.kp102 Tryz.kp103 Tryz.kp106 Tryz.kp107 Tryz.kp111 Tryz.kp112
attribute [go_sem] Tryz.kp117 Tryz.kp120 Tryz.kp121 Tryz.kp122 Tryz.kp123 Tryz.kp124 Tryz.kp125
attribute [go_sem] Tryz.kp126 Tryz.kp127 Tryz.kp128 Tryz.kp129 Tryz.kp133 Tryz.kp136 Tryz.kp137
attribute [go_sem] Tryz.kp138 Tryz.kp139 Tryz.kp140 Tryz.kp141 Tryz.kp142 Tryz.kp143 Tryz.kp144 Tryz.kp146 Tryz.kp147
attribute [go_sem] Tryz.kp150 Tryz.kp151 Tryz.kp155 Tryz.kp156 Tryz.kp157 Tryz.kp158 Tryz.kp159 Tryz.kp160 Tryz.kp161
attribute [go_sem] Tryz.kp162 Tryz.kp169 Tryz.kp170 Tryz.kp171
attribute [go_sem] Tryz.kp178 Tryz.kp179 Tryz.kp180 Tryz.kp181 Tryz.kp182 Tryz.kp185
attribute [go_sem] Tryz.kp187 Tryz.kp188 Tryz.kp192 Tryz.kp193
attribute [go_sem] Tryz.kp199 Tryz.kp200 Tryz.kp201 Tryz.kp202 Tryz.kp203 Tryz.kp204 Tryz.kp208 Tryz.kp209
attribute [go_sem] Tryz.kp210 Tryz.kp218
attribute [go_sem] Tryz.kp223 Tryz.kp229 Tryz.kp230 Tryz.kp232
attribute [go_sem] Tryz.kp236
attribute [go_sem] Tryz.kp257
attribute [go_sem] Tryz.kp258
end Go.Proofs
