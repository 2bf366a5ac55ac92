/- The types of the seat, told to the abstract layer. Written by program. -/
import Derived.Test.YtgbdndlmdklefaaGreatHK10
import Derived.Test.YtgbdndlmdklefaaGreatProg
import Derived.KernelRfl
import Derived.Test.YtgbdndlmdklefaaGreatHK11
import Derived.Laws.StructEq
set_option linter.unusedSimpArgs false
set_option linter.unusedVariables false
set_option maxRecDepth 100000
set_option maxHeartbeats 40000000
namespace Go.Proofs
open Go Go.Mu
def Tryz.ti1:TI:=⟨1,8,.func,.nilfn,false,false,false⟩
def Tryz.ti2:TI:=⟨1,8,.int .i64,.int .i64 0,false,false,false⟩
def Tryz.ti3:TI:=⟨1,8,.int .i64,.int .i64 0,false,false,false⟩
def Tryz.ti4:TI:=⟨1,1,.bool,.bool false,false,false,false⟩
def Tryz.ti5:TI:=⟨1,1,.int .u8,.int .u8 0,false,false,false⟩
def Tryz.ti9:TI:=⟨1,16,.str,.str ByteArray.empty,false,false,false⟩
def Tryz.VD:TI:=⟨1,24,.slice 3,.list .full 0 [],false,false,false⟩
def Tryz.Vw:TI:=⟨1,8,.ptr 116,.nilptr,false,false,false⟩
def Tryz.Vo:TI:=⟨2,16,.strct [(0,3),(1,3)],.agg [.int .i64 0,.int .i64 0],true,false,false⟩
def Tryz.VI:TI:=⟨1,24,.slice 67,.list .full 0 [],false,false,false⟩
def Tryz.VF:TI:=⟨1,24,.slice 51,.list .full 0 [],false,false,false⟩
def Tryz.Vj:TI:=⟨6,80,.strct [(0,3),(1,3),(2,26),(4,27),(5,28)],.agg [.int .i64 0,.int .i64 0,.int .i64 0,.int .i64 0,.list .full 0 [],.list .full 0 []],false,false,false⟩
def Tryz.VA:TI:=⟨2,48,.strct [(0,22),(1,22)],.agg [.list .full 0 [],.list .full 0 []],false,false,false⟩
def Tryz.UW:TI:=⟨1,24,.slice 22,.list .full 0 [],false,false,false⟩
def Tryz.Va:TI:=⟨1,8,.int .i64,.int .i64 0,false,false,false⟩
def Tryz.Vt:TI:=⟨1,24,.slice 26,.list .full 0 [],false,false,false⟩
def Tryz.U8:TI:=⟨1,24,.slice 105,.list .full 0 [],false,false,false⟩
def Tryz.VL:TI:=⟨3,56,.strct [(0,3),(1,46),(2,47)],.agg [.int .i64 0,.list .full 0 [],.list .full 0 []],false,false,false⟩
def Tryz.Vq:TI:=⟨6,80,.strct [(0,3),(1,3),(2,3),(3,49)],.agg [.int .i64 0,.int .i64 0,.int .i64 0,.int .i64 0,.list .full 0 [],.list .full 0 []],false,false,false⟩
def Tryz.Vf:TI:=⟨1,24,.slice 30,.list .full 0 [],false,false,false⟩
def Tryz.U1:TI:=⟨2,16,.strct [(0,3),(1,3)],.agg [.int .i64 0,.int .i64 0],true,false,false⟩
def Tryz.TV:TI:=⟨6,48,.strct [(0,3),(1,3),(2,3),(3,3),(4,26)],.agg [.int .i64 0,.int .i64 0,.int .i64 0,.int .i64 0,.int .i64 0,.int .i64 0],true,false,false⟩
def Tryz.Uh:TI:=⟨1,8,.int .u64,.int .u64 0,false,false,false⟩
def Tryz.Tf:TI:=⟨1,8,.strct [(0,114)],.agg [.int .u64 0],false,false,false⟩
def Tryz.UF:TI:=⟨1,8,.int .u64,.int .u64 0,false,false,false⟩
def Tryz.TO:TI:=⟨7,104,.strct [(0,30),(6,36)],.agg [.int .i64 0,.int .i64 0,.int .i64 0,.int .i64 0,.list .full 0 [],.list .full 0 [],.list .full 0 []],false,false,false⟩
def Tryz.Uk:TI:=⟨1,8,.map 127 4,.nilmap,false,false,false⟩
def Tryz.Tx:TI:=⟨4,32,.arr 4 3,.agg [.int .i64 0,.int .i64 0,.int .i64 0,.int .i64 0],true,false,true⟩
def Tryz.T5:TI:=⟨1,8,.int .u64,.int .u64 0,false,false,false⟩
def Tryz.TJ:TI:=⟨1,24,.slice 127,.list .full 0 [],false,false,false⟩
def Tryz.UD:TI:=⟨1,24,.slice 169,.list .full 0 [],false,false,false⟩
def Tryz.TB:TI:=⟨3,24,.arr 3 3,.agg [.int .i64 0,.int .i64 0,.int .i64 0],false,false,false⟩
def Tryz.Ua:TI:=⟨1,8,.func,.nilfn,false,false,false⟩
def Tryz.SQ:TI:=⟨1,24,.slice 37,.list .full 0 [],false,false,false⟩
def Tryz.Tq:TI:=⟨1,8,.map 144 4,.nilmap,false,false,false⟩
def Tryz.Uw:TI:=⟨1,8,.func,.nilfn,false,false,false⟩
def Tryz.Ur:TI:=⟨1,8,.func,.nilfn,false,false,false⟩
def Tryz.TF:TI:=⟨1,8,.func,.nilfn,false,false,false⟩
def Tryz.TC:TI:=⟨1,8,.func,.nilfn,false,false,false⟩
def Tryz.Tg:TI:=⟨1,8,.func,.nilfn,false,false,false⟩
def Tryz.UH:TI:=⟨1,8,.func,.nilfn,false,false,false⟩
def Tryz.SV:TI:=⟨1,8,.func,.nilfn,false,false,false⟩
def Tryz.Uq:TI:=⟨1,8,.map 3 4,.nilmap,false,false,false⟩
def Tryz.Tu:TI:=⟨5,40,.strct [(0,26),(2,3),(3,3),(4,3)],.agg [.int .i64 0,.int .i64 0,.int .i64 0,.int .i64 0,.int .i64 0],false,false,false⟩
def Tryz.Tc:TI:=⟨1,16,.iface,.niliface,false,false,false⟩
def Tryz.T8:TI:=⟨1,8,.map 3 164,.nilmap,false,false,false⟩
def Tryz.Ux:TI:=⟨1,8,.int .i64,.int .i64 0,false,false,false⟩
def Tryz.Ub:TI:=⟨1,4,.int .u32,.int .u32 0,false,false,false⟩
def Tryz.Ta:TI:=⟨1,8,.chan,.chan none,false,false,false⟩
def Tryz.EU:TI:=⟨3,40,.strct [(0,3),(1,22),(2,37)],.agg [.int .i64 0,.list .full 0 [],.int .i64 0],false,false,false⟩
def Tryz.SZ:TI:=⟨1,8,.func,.nilfn,false,false,false⟩
def Tryz.Te:TI:=⟨1,24,.slice 213,.list .full 0 [],false,false,false⟩
def Tryz.Th:TI:=⟨1,8,.func,.nilfn,false,false,false⟩
def Tryz.S4:TI:=⟨1,8,.func,.nilfn,false,false,false⟩
def Tryz.TE:TI:=⟨7,56,.strct [(0,105),(6,3)],.agg [.int .i64 0,.int .i64 0,.int .i64 0,.int .i64 0,.int .i64 0,.int .i64 0,.int .i64 0],false,false,false⟩
def Tryz.S8:TI:=⟨6,48,.strct [(0,105)],.agg [.int .i64 0,.int .i64 0,.int .i64 0,.int .i64 0,.int .i64 0,.int .i64 0],false,false,false⟩
def Tryz.TX:TI:=⟨6,48,.strct [(0,105)],.agg [.int .i64 0,.int .i64 0,.int .i64 0,.int .i64 0,.int .i64 0,.int .i64 0],false,false,false⟩
def Tryz.Ug:TI:=⟨1,8,.ptr 3,.nilptr,false,false,false⟩
def Tryz.tyl:List (Nat×TI):=[(1,Tryz.ti1),(2,Tryz.ti2),(3,Tryz.ti3),(4,Tryz.ti4),(5,Tryz.ti5),(9,Tryz.ti9),(22,Tryz.VD),(23,Tryz.Vw),(26,Tryz.Vo),(27,Tryz.VI),(28,Tryz.VF),(30,Tryz.Vj),(32,Tryz.VA),(36,Tryz.UW),(37,Tryz.Va),(46,Tryz.Vt),(47,Tryz.U8),(49,Tryz.VL),(51,Tryz.Vq),(54,Tryz.Vf),(67,Tryz.U1),(105,Tryz.TV),(114,Tryz.Uh),(116,Tryz.Tf),(117,Tryz.UF),(119,Tryz.TO),(120,Tryz.Uk),(127,Tryz.Tx),(144,Tryz.T5),(146,Tryz.TJ),(164,Tryz.UD),(169,Tryz.TB),(170,Tryz.Ua),(179,Tryz.SQ),(181,Tryz.Tq),(184,Tryz.Uw),(189,Tryz.Ur),(190,Tryz.TF),(192,Tryz.TC),(195,Tryz.Tg),(197,Tryz.UH),(198,Tryz.SV),(202,Tryz.Uq),(210,Tryz.Tu),(213,Tryz.Tc),(215,Tryz.T8),(225,Tryz.Ux),(232,Tryz.Ub),(234,Tryz.Ta),(236,Tryz.EU),(239,Tryz.SZ),(242,Tryz.Te),(243,Tryz.Th),(244,Tryz.S4),(252,Tryz.TE),(254,Tryz.S8),(255,Tryz.TX),(265,Tryz.Ug)]
def Tryz.ty(t:Nat):TI:=Af Tryz.tyl t
theorem Tryz.ty1:Tryz.ty 1=⟨1,8,.func,.nilfn,false,false,false⟩:=rfl
theorem Tryz.ty2:Tryz.ty 2=⟨1,8,.int .i64,.int .i64 0,false,false,false⟩:=rfl
theorem Tryz.ty3:Tryz.ty 3=⟨1,8,.int .i64,.int .i64 0,false,false,false⟩:=rfl
theorem Tryz.ty4:Tryz.ty 4=⟨1,1,.bool,.bool false,false,false,false⟩:=rfl
theorem Tryz.ty5:Tryz.ty 5=⟨1,1,.int .u8,.int .u8 0,false,false,false⟩:=rfl
theorem Tryz.ty9:Tryz.ty 9=⟨1,16,.str,.str ByteArray.empty,false,false,false⟩:=rfl
theorem Tryz.U4:Tryz.ty 22=⟨1,24,.slice 3,.list .full 0 [],false,false,false⟩:=rfl
theorem Tryz.Vl:Tryz.ty 23=⟨1,8,.ptr 116,.nilptr,false,false,false⟩:=rfl
theorem Tryz.K8:Tryz.ty 26=⟨2,16,.strct [(0,3),(1,3)],.agg [.int .i64 0,.int .i64 0],true,false,false⟩:=rfl
theorem Tryz.Vh:Tryz.ty 27=⟨1,24,.slice 67,.list .full 0 [],false,false,false⟩:=rfl
theorem Tryz.VJ:Tryz.ty 28=⟨1,24,.slice 51,.list .full 0 [],false,false,false⟩:=rfl
theorem Tryz.U7:Tryz.ty 30=⟨6,80,.strct [(0,3),(1,3),(2,26),(4,27),(5,28)],.agg [.int .i64 0,.int .i64 0,.int .i64 0,.int .i64 0,.list .full 0 [],.list .full 0 []],false,false,false⟩:=rfl
theorem Tryz.VK:Tryz.ty 32=⟨2,48,.strct [(0,22),(1,22)],.agg [.list .full 0 [],.list .full 0 []],false,false,false⟩:=rfl
theorem Tryz.U2:Tryz.ty 36=⟨1,24,.slice 22,.list .full 0 [],false,false,false⟩:=rfl
theorem Tryz.Vu:Tryz.ty 37=⟨1,8,.int .i64,.int .i64 0,false,false,false⟩:=rfl
theorem Tryz.Vx:Tryz.ty 46=⟨1,24,.slice 26,.list .full 0 [],false,false,false⟩:=rfl
theorem Tryz.VC:Tryz.ty 47=⟨1,24,.slice 105,.list .full 0 [],false,false,false⟩:=rfl
theorem Tryz.U6:Tryz.ty 49=⟨3,56,.strct [(0,3),(1,46),(2,47)],.agg [.int .i64 0,.list .full 0 [],.list .full 0 []],false,false,false⟩:=rfl
theorem Tryz.Vn:Tryz.ty 51=⟨6,80,.strct [(0,3),(1,3),(2,3),(3,49)],.agg [.int .i64 0,.int .i64 0,.int .i64 0,.int .i64 0,.list .full 0 [],.list .full 0 []],false,false,false⟩:=rfl
theorem Tryz.VH:Tryz.ty 54=⟨1,24,.slice 30,.list .full 0 [],false,false,false⟩:=rfl
theorem Tryz.UT:Tryz.ty 67=⟨2,16,.strct [(0,3),(1,3)],.agg [.int .i64 0,.int .i64 0],true,false,false⟩:=rfl
theorem Tryz.Ul:Tryz.ty 105=⟨6,48,.strct [(0,3),(1,3),(2,3),(3,3),(4,26)],.agg [.int .i64 0,.int .i64 0,.int .i64 0,.int .i64 0,.int .i64 0,.int .i64 0],true,false,false⟩:=rfl
theorem Tryz.Tv:Tryz.ty 114=⟨1,8,.int .u64,.int .u64 0,false,false,false⟩:=rfl
theorem Tryz.S5:Tryz.ty 116=⟨1,8,.strct [(0,114)],.agg [.int .u64 0],false,false,false⟩:=rfl
theorem Tryz.UK:Tryz.ty 117=⟨1,8,.int .u64,.int .u64 0,false,false,false⟩:=rfl
theorem Tryz.TW:Tryz.ty 119=⟨7,104,.strct [(0,30),(6,36)],.agg [.int .i64 0,.int .i64 0,.int .i64 0,.int .i64 0,.list .full 0 [],.list .full 0 [],.list .full 0 []],false,false,false⟩:=rfl
theorem Tryz.S7:Tryz.ty 120=⟨1,8,.map 127 4,.nilmap,false,false,false⟩:=rfl
theorem Tryz.Uj:Tryz.ty 127=⟨4,32,.arr 4 3,.agg [.int .i64 0,.int .i64 0,.int .i64 0,.int .i64 0],true,false,true⟩:=rfl
theorem Tryz.SW:Tryz.ty 144=⟨1,8,.int .u64,.int .u64 0,false,false,false⟩:=rfl
theorem Tryz.S9:Tryz.ty 146=⟨1,24,.slice 127,.list .full 0 [],false,false,false⟩:=rfl
theorem Tryz.SR:Tryz.ty 164=⟨1,24,.slice 169,.list .full 0 [],false,false,false⟩:=rfl
theorem Tryz.Tk:Tryz.ty 169=⟨3,24,.arr 3 3,.agg [.int .i64 0,.int .i64 0,.int .i64 0],false,false,false⟩:=rfl
theorem Tryz.Tp:Tryz.ty 170=⟨1,8,.func,.nilfn,false,false,false⟩:=rfl
theorem Tryz.S6:Tryz.ty 179=⟨1,24,.slice 37,.list .full 0 [],false,false,false⟩:=rfl
theorem Tryz.Tl:Tryz.ty 181=⟨1,8,.map 144 4,.nilmap,false,false,false⟩:=rfl
theorem Tryz.Uu:Tryz.ty 184=⟨1,8,.func,.nilfn,false,false,false⟩:=rfl
theorem Tryz.TQ:Tryz.ty 189=⟨1,8,.func,.nilfn,false,false,false⟩:=rfl
theorem Tryz.TN:Tryz.ty 190=⟨1,8,.func,.nilfn,false,false,false⟩:=rfl
theorem Tryz.Tw:Tryz.ty 192=⟨1,8,.func,.nilfn,false,false,false⟩:=rfl
theorem Tryz.TS:Tryz.ty 195=⟨1,8,.func,.nilfn,false,false,false⟩:=rfl
theorem Tryz.Ts:Tryz.ty 197=⟨1,8,.func,.nilfn,false,false,false⟩:=rfl
theorem Tryz.SU:Tryz.ty 198=⟨1,8,.func,.nilfn,false,false,false⟩:=rfl
theorem Tryz.Ud:Tryz.ty 202=⟨1,8,.map 3 4,.nilmap,false,false,false⟩:=rfl
theorem Tryz.S0:Tryz.ty 210=⟨5,40,.strct [(0,26),(2,3),(3,3),(4,3)],.agg [.int .i64 0,.int .i64 0,.int .i64 0,.int .i64 0,.int .i64 0],false,false,false⟩:=rfl
theorem Tryz.SS:Tryz.ty 213=⟨1,16,.iface,.niliface,false,false,false⟩:=rfl
theorem Tryz.Ut:Tryz.ty 215=⟨1,8,.map 3 164,.nilmap,false,false,false⟩:=rfl
theorem Tryz.SX:Tryz.ty 225=⟨1,8,.int .i64,.int .i64 0,false,false,false⟩:=rfl
theorem Tryz.Uz:Tryz.ty 232=⟨1,4,.int .u32,.int .u32 0,false,false,false⟩:=rfl
theorem Tryz.Uf:Tryz.ty 234=⟨1,8,.chan,.chan none,false,false,false⟩:=rfl
theorem Tryz.Ui:Tryz.ty 236=⟨3,40,.strct [(0,3),(1,22),(2,37)],.agg [.int .i64 0,.list .full 0 [],.int .i64 0],false,false,false⟩:=rfl
theorem Tryz.Un:Tryz.ty 239=⟨1,8,.func,.nilfn,false,false,false⟩:=rfl
theorem Tryz.Tj:Tryz.ty 242=⟨1,24,.slice 213,.list .full 0 [],false,false,false⟩:=rfl
theorem Tryz.Tr:Tryz.ty 243=⟨1,8,.func,.nilfn,false,false,false⟩:=rfl
theorem Tryz.TP:Tryz.ty 244=⟨1,8,.func,.nilfn,false,false,false⟩:=rfl
theorem Tryz.Us:Tryz.ty 252=⟨7,56,.strct [(0,105),(6,3)],.agg [.int .i64 0,.int .i64 0,.int .i64 0,.int .i64 0,.int .i64 0,.int .i64 0,.int .i64 0],false,false,false⟩:=rfl
theorem Tryz.S3:Tryz.ty 254=⟨6,48,.strct [(0,105)],.agg [.int .i64 0,.int .i64 0,.int .i64 0,.int .i64 0,.int .i64 0,.int .i64 0],false,false,false⟩:=rfl
theorem Tryz.S2:Tryz.ty 255=⟨6,48,.strct [(0,105)],.agg [.int .i64 0,.int .i64 0,.int .i64 0,.int .i64 0,.int .i64 0,.int .i64 0],false,false,false⟩:=rfl
theorem Tryz.Ue:Tryz.ty 265=⟨1,8,.ptr 3,.nilptr,false,false,false⟩:=rfl
theorem tk{t:Nat}{i:TI}{d:TypeDesc}(h4:Tryz.prog.underlying t=some d)(h5:bV d i.kd)(h1:(Tryz.prog.info? t).map (fun i=>(i.size,i.bytes))=some (i.sz,i.bytes):=by kernel_rfl)(h2:((Tryz.prog.info? t).bind (·.zero)).bind kj=some i.zero:=by kernel_rfl)(h3:i.zero.flat=true:=by rfl):uO Tryz.prog t i:=uO.of d h1 h2 h3 h4 h5
theorem Tryz.gV:b9 Tryz.prog Tryz.ty:=RF (by
 simp only[Tryz.tyl,List.forall_mem_cons,List.not_mem_nil,false_implies,implies_true,and_true]
 exact⟨tk Tryz.underlying1 ⟨_,_,_,rfl⟩,tk Tryz.underlying2 rfl,tk Tryz.underlying3 rfl,tk Tryz.underlying4 rfl,tk Tryz.underlying5 rfl,tk Tryz.underlying9 rfl,tk Tryz.underlying22 rfl,tk Tryz.underlying23 rfl,tk Tryz.underlying26 ⟨_,rfl,rfl⟩,tk Tryz.underlying27 rfl,tk Tryz.underlying28 rfl,tk Tryz.underlying30 ⟨_,rfl,rfl⟩,tk Tryz.underlying32 ⟨_,rfl,rfl⟩,tk Tryz.underlying36 rfl,tk Tryz.underlying37 rfl,tk Tryz.underlying46 rfl,tk Tryz.underlying47 rfl,tk Tryz.underlying49 ⟨_,rfl,rfl⟩,tk Tryz.underlying51 ⟨_,rfl,rfl⟩,tk Tryz.underlying54 rfl,tk Tryz.underlying67 ⟨_,rfl,rfl⟩,tk Tryz.underlying105 ⟨_,rfl,rfl⟩,tk Tryz.underlying114 rfl,tk Tryz.underlying116 ⟨_,rfl,rfl⟩,tk Tryz.underlying117 rfl,tk Tryz.underlying119 ⟨_,rfl,rfl⟩,tk Tryz.underlying120 rfl,tk Tryz.underlying127 rfl,tk Tryz.underlying144 rfl,tk Tryz.underlying146 rfl,tk Tryz.underlying164 rfl,tk Tryz.underlying169 rfl,tk Tryz.underlying170 ⟨_,_,_,rfl⟩,tk Tryz.underlying179 rfl,tk Tryz.underlying181 rfl,tk Tryz.underlying184 ⟨_,_,_,rfl⟩,tk Tryz.underlying189 ⟨_,_,_,rfl⟩,tk Tryz.underlying190 ⟨_,_,_,rfl⟩,tk Tryz.underlying192 ⟨_,_,_,rfl⟩,tk Tryz.underlying195 ⟨_,_,_,rfl⟩,tk Tryz.underlying197 ⟨_,_,_,rfl⟩,tk Tryz.underlying198 ⟨_,_,_,rfl⟩,tk Tryz.underlying202 rfl,tk Tryz.underlying210 ⟨_,rfl,rfl⟩,tk Tryz.underlying213 ⟨_,rfl⟩,tk Tryz.underlying215 rfl,tk Tryz.underlying225 rfl,tk Tryz.underlying232 rfl,tk Tryz.underlying234 ⟨_,_,rfl⟩,tk Tryz.underlying236 ⟨_,rfl,rfl⟩,tk Tryz.underlying239 ⟨_,_,_,rfl⟩,tk Tryz.underlying242 rfl,tk Tryz.underlying243 ⟨_,_,_,rfl⟩,tk Tryz.underlying244 ⟨_,_,_,rfl⟩,tk Tryz.underlying252 ⟨_,rfl,rfl⟩,tk Tryz.underlying254 ⟨_,rfl,rfl⟩,tk Tryz.underlying255 ⟨_,rfl,rfl⟩,tk Tryz.underlying265 rfl⟩)
def Tryz.Vk:Nat→List Nat×List (Nat×List Nat)
 | 14=>([0,0,3,7,15,15,63,127,255,511,511,2047,4095,8191,16383,16383,65535,131071,262143,524287,524287,2097151,4194303,8388607,16777215,16777215,67108863,134217727,268435455,536870911,536870911,536870911,3758096383,8053063679,17179869183,34359738367,68719476735],[(0,[]),(1,[]),(2,[]),(3,[]),(4,[]),(5,[]),(6,[]),(7,[]),(8,[]),(9,[]),(10,[]),(11,[]),(12,[]),(13,[]),(14,[]),(15,[]),(16,[]),(17,[]),(18,[]),(19,[]),(20,[]),(21,[]),(22,[]),(23,[]),(24,[]),(25,[]),(26,[]),(27,[]),(28,[]),(29,[]),(30,[]),(31,[]),(32,[]),(33,[]),(34,[]),(35,[]),(36,[])])
 | _=>([],[])
def Tryz.Vy:Nat→List Nat×List (Nat×List Nat)
 | 10=>([0,1,0,0,12,28,63,127,255,511,511,2047,4095,8191,16383,16383,65535,131071,262143,524287,1048575,1048575,1048575,7340031,15728639,33554431,67108863,134217727],[(0,[]),(2,[]),(3,[]),(4,[]),(5,[]),(1,[5]),(6,[]),(7,[]),(8,[]),(9,[]),(10,[]),(11,[]),(12,[]),(13,[]),(14,[]),(15,[]),(16,[]),(17,[]),(18,[]),(19,[]),(20,[]),(21,[]),(22,[]),(23,[]),(24,[]),(25,[]),(26,[]),(27,[])])
 | _=>([],[])
def Tryz.Ju:Nat→List Nat×List (Nat×List Nat)
 | 14=>([0,0,3,7,15,15,63,127,255,511,511,2047,4095,8191,16383,16383,65535,131071,262143,524287,1048575,1048575,4194303,8388607,16777215,33554431,67108863,67108863,268435455,536870911,1073741823,2147483647,4294967295,4294967295,4294967295,30064771071,64424509439,137438953471,274877906943,549755813887],[(0,[]),(1,[]),(2,[]),(3,[]),(4,[]),(5,[]),(6,[]),(7,[]),(8,[]),(9,[]),(10,[]),(11,[]),(12,[]),(13,[]),(14,[]),(15,[]),(16,[]),(17,[]),(18,[]),(19,[]),(20,[]),(21,[]),(22,[]),(23,[]),(24,[]),(25,[]),(26,[]),(27,[]),(28,[]),(29,[]),(30,[]),(31,[]),(32,[]),(33,[]),(34,[]),(35,[]),(36,[]),(37,[]),(38,[]),(39,[])])
 | _=>([],[])
def Tryz.E9:Nat→List Nat×List (Nat×List Nat)
 | 5=>([0,0,2,6,14,0,0,96,224,480,1022,2046,4095,8191,16383],[(0,[]),(1,[]),(2,[]),(3,[]),(4,[]),(5,[]),(6,[]),(7,[]),(8,[]),(9,[]),(10,[]),(11,[]),(12,[]),(13,[]),(14,[])])
 | 6=>([0,0,2,6,14,0,32,96,224,480,1022,2047,4095,8191],[(0,[]),(1,[]),(2,[]),(3,[]),(4,[]),(5,[]),(6,[]),(7,[]),(8,[]),(9,[]),(10,[]),(11,[]),(12,[]),(13,[])])
 | _=>([],[])
def Tryz.uh:Nat→List Nat×List (Nat×List Nat)
 | 15=>([0,1,0,0,8,24,60,0,252,508,1020,2047,4095,8191],[(0,[]),(1,[]),(2,[]),(3,[]),(4,[]),(5,[]),(7,[]),(6,[1]),(8,[1]),(9,[]),(10,[]),(11,[]),(12,[]),(13,[])])
 | 20=>([0,1,0,4,15,0,32,0,128,511,31,2047,4095,8191],[(0,[]),(1,[]),(2,[]),(3,[]),(5,[]),(6,[]),(7,[]),(8,[]),(4,[6]),(10,[]),(9,[]),(11,[]),(12,[]),(13,[])])
 | 21=>([0,0,1,7],[(0,[]),(1,[]),(2,[1]),(3,[])])
 | _=>([],[])
def Tryz.nU:Nat→List Nat×List (Nat×List Nat)
 | 1=>([0,0,0,6,14,31,63,127,127,127,0,1279,3583,8191],[(0,[]),(1,[]),(2,[]),(3,[0]),(4,[]),(5,[]),(6,[]),(7,[]),(8,[]),(9,[]),(10,[]),(11,[]),(12,[]),(13,[])])
 | _=>([],[])
def Tryz.UE:Nat→List Nat×List (Nat×List Nat)
 | 6=>([0,1,3,7,15,31,63,127,255,511,1023,2047,4095,8191,16383,32767,65535,131071,262143,524287,1048575,2097151,4194303,8388607,8388607,33554431,67108863,134217727,268435455,268435455,268435455,1879048191,4294967295,8589934591,17179869183,34359738367,34359738367,137438953471,274877906943,549755813887,1099511627775,1099511627775,4398046511103,8796093022207,17592186044415],[(0,[]),(1,[]),(2,[]),(3,[]),(4,[]),(5,[]),(6,[]),(7,[]),(8,[]),(9,[]),(10,[]),(11,[]),(12,[]),(13,[]),(14,[]),(15,[]),(16,[]),(17,[]),(18,[]),(19,[]),(20,[]),(21,[]),(22,[]),(23,[]),(24,[23]),(25,[]),(26,[]),(27,[]),(28,[]),(29,[]),(30,[]),(31,[]),(32,[]),(33,[]),(34,[]),(35,[]),(36,[]),(37,[]),(38,[]),(39,[]),(40,[]),(41,[]),(42,[]),(43,[]),(44,[])])
 | _=>([],[])
def Tryz.Ng:Nat→List Nat×List (Nat×List Nat)
 | 4=>([0,0,0,6,0,30,63,127,255,255,255,0,2559,7167,16383],[(0,[]),(1,[]),(2,[]),(4,[]),(3,[0]),(5,[]),(6,[]),(7,[]),(8,[]),(9,[]),(10,[]),(11,[]),(12,[]),(13,[]),(14,[])])
 | _=>([],[])
def Tryz.xo:Nat→List Nat×List (Nat×List Nat)
 | 4=>([0,0,0,6,0,30,63,127,255,255,255,0,2559,7167,16383],[(0,[]),(1,[]),(2,[]),(4,[]),(3,[0]),(5,[]),(6,[]),(7,[]),(8,[]),(9,[]),(10,[]),(11,[]),(12,[]),(13,[]),(14,[])])
 | _=>([],[])
def Tryz.xj:Nat→List Nat×List (Nat×List Nat)
 | 5=>([0,1,0,7,15,0,32,0,224,480,1023,2047],[(0,[]),(1,[]),(2,[]),(3,[]),(4,[]),(5,[]),(6,[]),(7,[]),(8,[]),(9,[]),(10,[]),(11,[])])
 | 9=>([0,1,0,7,15,0,32,0,224,480,0,0,3103,8191],[(0,[]),(1,[]),(2,[]),(3,[]),(4,[]),(5,[]),(6,[]),(7,[]),(8,[]),(9,[]),(10,[]),(11,[]),(12,[6,9]),(13,[])])
 | _=>([],[])
def Tryz.To:Nat→List Nat×List (Nat×List Nat)
 | 8=>([0,0,2,6,0,0,32,96,240,496,1022,2046,4095,8191],[(0,[]),(1,[]),(2,[]),(3,[]),(4,[]),(5,[]),(6,[]),(7,[]),(8,[]),(9,[]),(10,[]),(11,[]),(12,[]),(13,[])])
 | _=>([],[])
def Tryz.xy:Nat→List Nat×List (Nat×List Nat)
 | 10=>([0,1,0,7,15,31,0,64,192,511,1023],[(0,[]),(1,[]),(2,[]),(3,[]),(4,[]),(5,[]),(6,[]),(7,[]),(8,[]),(9,[]),(10,[])])
 | 19=>([0,0,2,0,14,30,63,127],[(0,[]),(1,[]),(2,[]),(3,[]),(4,[]),(5,[]),(6,[]),(7,[])])
 | _=>([],[])
def Tryz.xq:Nat→List Nat×List (Nat×List Nat)
 | 5=>([0,0,3,7,0,0,48,112,255,511],[(0,[]),(1,[]),(2,[]),(3,[]),(4,[]),(5,[]),(6,[]),(7,[]),(8,[]),(9,[])])
 | _=>([],[])
def Tryz.xk:Nat→List Nat×List (Nat×List Nat)
 | 5=>([0,0,3,7,0,0,48,112,255,511],[(0,[]),(1,[]),(2,[]),(3,[]),(4,[]),(5,[]),(6,[]),(7,[]),(8,[]),(9,[])])
 | _=>([],[])
def Tryz.xA:Nat→List Nat×List (Nat×List Nat)
 | 5=>([0,0,3,7,0,0,48,112,255,511],[(0,[]),(1,[]),(2,[]),(3,[]),(4,[]),(5,[]),(6,[]),(7,[]),(8,[]),(9,[])])
 | _=>([],[])
def Tryz.xl:Nat→List Nat×List (Nat×List Nat)
 | 17=>([0,1,3,3,11,3,59,123,3,259,3,1795,3843,7939,3,3,3,98307,229379,3,1015811,2064387,4194303,8388607,16777215],[(0,[]),(1,[]),(2,[]),(3,[]),(4,[]),(5,[]),(6,[]),(7,[]),(8,[]),(9,[]),(10,[]),(11,[]),(12,[]),(14,[]),(15,[]),(16,[]),(17,[]),(18,[]),(19,[]),(20,[]),(21,[]),(13,[2,4,7,18,21]),(22,[]),(23,[]),(24,[])])
 | _=>([],[])
def Tryz.L5:Nat→List Nat×List (Nat×List Nat)
 | 3=>([0,1,0,0,0,0,32,124,255,0,0,1024,3072,0,8192,32508,65535,131071],[(0,[]),(1,[]),(2,[]),(3,[]),(4,[]),(5,[]),(6,[]),(9,[]),(10,[]),(11,[]),(12,[]),(13,[]),(14,[]),(7,[1,11,14]),(8,[]),(15,[1]),(16,[]),(17,[])])
 | _=>([],[])
def Tryz.Cd:Nat→List Nat×List (Nat×List Nat)
 | 6=>([0,0,3,7,0,0,32,112,240,511],[(0,[]),(1,[]),(2,[]),(3,[]),(4,[]),(5,[]),(6,[]),(7,[]),(8,[]),(9,[])])
 | 11=>([0,0,3,7,0,0,32,112,240,511],[(0,[]),(1,[]),(2,[]),(3,[]),(4,[]),(5,[]),(6,[]),(7,[]),(8,[]),(9,[])])
 | _=>([],[])
def Tryz.MK:Nat→List Nat×List (Nat×List Nat)
 | 1=>([0,1,3,0,0,16,63,55,255,511,1023],[(0,[]),(1,[]),(2,[2]),(3,[]),(4,[]),(5,[]),(7,[]),(6,[]),(8,[]),(9,[]),(10,[])])
 | _=>([],[])
def Tryz.xI:Nat→List Nat×List (Nat×List Nat)
 | 6=>([0,1,0,4,12,0,60,127,0,256,0,1024,3072,0,15360,32512,65535,131071],[(0,[]),(1,[]),(2,[]),(3,[]),(4,[]),(5,[]),(6,[]),(7,[]),(8,[]),(9,[]),(10,[]),(11,[]),(12,[]),(13,[]),(14,[]),(15,[]),(16,[]),(17,[])])
 | _=>([],[])
def Tryz.mU:Nat→List Nat×List (Nat×List Nat)
 | 5=>([0,1,0,7,15,0,32,0,224,480,1023,2047],[(0,[]),(1,[]),(2,[]),(3,[]),(4,[]),(5,[]),(6,[]),(7,[]),(8,[]),(9,[]),(10,[]),(11,[])])
 | _=>([],[])
def Tryz.sC:Nat→List Nat×List (Nat×List Nat)
 | 6=>([0,0,0,0,0,24,0,120,255,511],[(0,[]),(1,[]),(2,[]),(3,[]),(4,[]),(6,[]),(5,[0]),(7,[0]),(8,[]),(9,[])])
 | 12=>([0,0,0,0,0,0,48,0,128,496,1022,2047,4095],[(0,[]),(1,[]),(2,[]),(3,[]),(4,[]),(5,[]),(7,[]),(8,[]),(6,[1]),(9,[1]),(10,[]),(11,[]),(12,[])])
 | _=>([],[])
def Tryz.uj:Nat→List Nat×List (Nat×List Nat)
 | 10=>([0,0,0,0,12,28,63,127],[(0,[]),(1,[]),(2,[]),(3,[]),(4,[]),(5,[]),(6,[]),(7,[])])
 | _=>([],[])
def Tryz.Hn:Nat→List Nat×List (Nat×List Nat)
 | 4=>([0,1,3,0,0,0,32,120,255,0,1023],[(0,[]),(1,[]),(2,[]),(3,[]),(4,[]),(5,[]),(6,[]),(7,[2]),(8,[]),(9,[]),(10,[])])
 | _=>([],[])
def Tryz.xW:Nat→List Nat×List (Nat×List Nat)
 | 2=>([0,1,3,7,0,16,63,0,128,384,896,0,2048,8064,16383,32767],[(0,[]),(1,[]),(2,[]),(3,[]),(4,[]),(5,[]),(6,[]),(7,[]),(8,[]),(9,[]),(10,[]),(11,[]),(12,[]),(13,[]),(14,[]),(15,[])])
 | _=>([],[])
def Tryz.pe:Nat→List Nat×List (Nat×List Nat)
 | 16=>([0,0,3,7,0,16,63,127,255],[(0,[]),(1,[]),(2,[]),(3,[]),(4,[]),(5,[]),(6,[]),(7,[]),(8,[])])
 | _=>([],[])
def Tryz.sM:Nat→List Nat×List (Nat×List Nat)
 | 1=>([0,0,2,6,15,0,0,64,192,511,1023,0,4095],[(0,[]),(1,[]),(2,[]),(3,[]),(5,[]),(6,[]),(7,[]),(8,[]),(4,[8]),(9,[]),(10,[]),(11,[]),(12,[])])
 | 5=>([0,1,0,0,12,31,0,64,0,0,796,2012,4095,8191],[(0,[]),(1,[]),(2,[]),(3,[]),(6,[]),(7,[]),(8,[]),(9,[]),(4,[1,7,9]),(5,[]),(10,[1,7]),(11,[]),(12,[]),(13,[])])
 | _=>([],[])
def Tryz.nv:Nat→List Nat×List (Nat×List Nat)
 | 1=>([0,0,0,6,15,31,63,63,127,511],[(0,[]),(1,[]),(2,[]),(3,[0]),(4,[]),(5,[]),(6,[]),(7,[]),(8,[]),(9,[])])
 | _=>([],[])
def Tryz.p7:Nat→List Nat×List (Nat×List Nat)
 | 17=>([0,1,3,7,7,23,63,127,7,7,775,1799,4095,8191,16383],[(0,[]),(1,[]),(2,[]),(3,[]),(4,[]),(5,[]),(6,[]),(7,[]),(8,[]),(9,[]),(10,[]),(11,[]),(12,[]),(13,[]),(14,[])])
 | _=>([],[])
def Tryz.bg:Nat→List Nat×List (Nat×List Nat)
 | 17=>([0,0,2,1,15],[(0,[]),(1,[]),(2,[]),(3,[2]),(4,[])])
 | _=>([],[])
def Tryz.um:Nat→List Nat×List (Nat×List Nat)
 | 13=>([0,1,0,7,15,31,0,64,0,448,960,1984,4095,8191],[(0,[]),(1,[]),(2,[]),(3,[]),(4,[]),(5,[]),(6,[]),(7,[]),(8,[]),(9,[]),(10,[]),(11,[]),(12,[]),(13,[])])
 | 20=>([0,1,0,7,15,0,32,96,255,511],[(0,[]),(1,[]),(2,[]),(3,[]),(4,[]),(5,[]),(6,[]),(7,[]),(8,[]),(9,[])])
 | _=>([],[])
def Tryz.uw:Nat→List Nat×List (Nat×List Nat)
 | 8=>([0,1,3,3,11,3,59,123,3,3,771,1795,3,3,3,24579,57347,131071,262143,524287],[(0,[]),(1,[]),(2,[]),(3,[]),(4,[]),(5,[]),(6,[]),(7,[]),(8,[]),(9,[]),(10,[]),(11,[]),(12,[]),(13,[]),(14,[]),(15,[]),(16,[]),(17,[]),(18,[]),(19,[])])
 | _=>([],[])
def Tryz.y9:Nat→List Nat×List (Nat×List Nat)
 | 5=>([0,0,0,4,14,30,63,127],[(0,[]),(1,[]),(2,[]),(3,[]),(4,[0]),(5,[]),(6,[]),(7,[])])
 | _=>([],[])
def Tryz.yp:Nat→List Nat×List (Nat×List Nat)
 | 17=>([0,1,3,7,7,7,39,119,247,7,7,1543,3591,8191,16383,32767,65535],[(0,[]),(1,[]),(2,[]),(3,[]),(4,[]),(5,[]),(6,[]),(7,[]),(8,[]),(9,[]),(10,[]),(11,[]),(12,[]),(13,[]),(14,[]),(15,[]),(16,[])])
 | _=>([],[])
def Tryz.zl:Nat→List Nat×List (Nat×List Nat)
 | 4=>([0,0,3,7,15,15,63,127,15,15,527,1807,3855,8191,16383],[(0,[]),(1,[]),(2,[]),(3,[]),(4,[]),(5,[]),(6,[]),(7,[]),(8,[]),(9,[]),(10,[]),(11,[]),(12,[]),(13,[]),(14,[])])
 | 6=>([0,0,0,0,8,0,0,64,224,480,0,0,3072,7168,16355,32739,65535,131071],[(0,[]),(1,[]),(2,[]),(3,[]),(4,[]),(5,[]),(6,[]),(7,[]),(8,[]),(9,[]),(10,[]),(11,[]),(12,[]),(13,[]),(14,[]),(15,[]),(16,[]),(17,[])])
 | _=>([],[])
def Tryz.gP:Nat→List Nat×List (Nat×List Nat)
 | 5=>([0,0,3,7,15,15,63,127,15,15,527,1807,3855,8191,16383,32767],[(0,[]),(1,[]),(2,[]),(3,[]),(4,[]),(5,[]),(6,[]),(7,[]),(8,[]),(9,[]),(10,[]),(11,[]),(12,[]),(13,[]),(14,[]),(15,[])])
 | 11=>([0,0,0,0,8,0,0,64,224,480,0,0,3072,7168,16355,32739,65535,131071],[(0,[]),(1,[]),(2,[]),(3,[]),(4,[]),(5,[]),(6,[]),(7,[]),(8,[]),(9,[]),(10,[]),(11,[]),(12,[]),(13,[]),(14,[]),(15,[]),(16,[]),(17,[])])
 | 16=>([0,0,3,7,0,0,32,112,240,511,1023],[(0,[]),(1,[]),(2,[]),(3,[]),(4,[]),(5,[]),(6,[]),(7,[]),(8,[]),(9,[]),(10,[])])
 | 17=>([0,0,0,0,8,0,0,64,224,480,0,0,3072,7168,16355,32739,65535,131071],[(0,[]),(1,[]),(2,[]),(3,[]),(4,[]),(5,[]),(6,[]),(7,[]),(8,[]),(9,[]),(10,[]),(11,[]),(12,[]),(13,[]),(14,[]),(15,[]),(16,[]),(17,[])])
 | 22=>([0,0,3,7,0,0,32,112,240,511,1023],[(0,[]),(1,[]),(2,[]),(3,[]),(4,[]),(5,[]),(6,[]),(7,[]),(8,[]),(9,[]),(10,[])])
 | 23=>([0,0,0,0,8,0,0,64,224,480,0,0,3072,7168,16355,32739,65535,131071],[(0,[]),(1,[]),(2,[]),(3,[]),(4,[]),(5,[]),(6,[]),(7,[]),(8,[]),(9,[]),(10,[]),(11,[]),(12,[]),(13,[]),(14,[]),(15,[]),(16,[]),(17,[])])
 | _=>([],[])
def Tryz.th:Nat→List Nat×List (Nat×List Nat)
 | 10=>([0,0,0,0,12,0,32,124,254,511,1023],[(0,[]),(1,[]),(2,[]),(3,[]),(5,[]),(6,[]),(4,[1]),(7,[1]),(8,[]),(9,[]),(10,[])])
 | _=>([],[])
def Tryz.zZ:Nat→List Nat×List (Nat×List Nat)
 | 1=>([0,1,3,0,15,31,0,64,192,0,960,1984,4095,0,16383],[(0,[]),(1,[]),(2,[]),(3,[]),(4,[]),(5,[]),(6,[]),(7,[]),(8,[]),(9,[]),(10,[]),(11,[]),(12,[]),(13,[]),(14,[])])
 | 5=>([0,1,0,0,12,28,0,124,252,511,0,1024,0,0,12288,28672,0,126976,258048,523264,1048575,2097151],[(0,[]),(1,[]),(2,[]),(3,[]),(4,[]),(5,[]),(6,[]),(7,[]),(8,[]),(9,[]),(10,[]),(11,[]),(12,[]),(13,[]),(14,[]),(15,[]),(16,[]),(17,[]),(18,[]),(19,[]),(20,[]),(21,[])])
 | _=>([],[])
def Tryz.nw:Nat→List Nat×List (Nat×List Nat)
 | 4=>([0,1,3,7,15,0,32,96,255,511],[(0,[]),(1,[]),(2,[]),(3,[]),(4,[]),(5,[]),(6,[]),(7,[]),(8,[]),(9,[])])
 | 15=>([0,0,2,6,0,16,48,127,0,256,768,2047,4095,8191,16383],[(0,[]),(1,[]),(2,[]),(3,[]),(4,[]),(5,[]),(6,[]),(8,[]),(9,[]),(10,[]),(7,[10]),(11,[]),(12,[]),(13,[]),(14,[])])
 | _=>([],[])
def Tryz.tF:Nat→List Nat×List (Nat×List Nat)
 | 4=>([0,0,3,7,15,15,15,111,239,15,15,1039,3599,7695,16383,32767,65535],[(0,[]),(1,[]),(2,[]),(3,[]),(4,[]),(5,[]),(6,[]),(7,[]),(8,[]),(9,[]),(10,[]),(11,[]),(12,[]),(13,[]),(14,[]),(15,[]),(16,[])])
 | 6=>([0,0,0,0,8,0,0,64,224,480,0,0,3072,7168,16355,32739,65535,131071],[(0,[]),(1,[]),(2,[]),(3,[]),(4,[]),(5,[]),(6,[]),(7,[]),(8,[]),(9,[]),(10,[]),(11,[]),(12,[]),(13,[]),(14,[]),(15,[]),(16,[]),(17,[])])
 | _=>([],[])
def Tryz.y8:Nat→List Nat×List (Nat×List Nat)
 | 4=>([0,1,0,0,8,0,56,120,255,511],[(0,[]),(1,[]),(2,[]),(3,[]),(4,[]),(5,[]),(6,[]),(7,[]),(8,[]),(9,[])])
 | _=>([],[])
def Tryz.GY:Nat→List Nat×List (Nat×List Nat)
 | 1=>([0,1,3,7,15,0,32,96,255,511],[(0,[]),(1,[]),(2,[]),(3,[]),(4,[]),(5,[]),(6,[]),(7,[]),(8,[]),(9,[])])
 | _=>([],[])
def Tryz.IS:Nat→List Nat×List (Nat×List Nat)
 | 1=>([0,1,3,0,8,24,63,0,128,384,0,1024,3072,8064,16383,32767],[(0,[]),(1,[]),(2,[]),(3,[]),(4,[]),(5,[]),(6,[]),(7,[]),(8,[]),(9,[]),(10,[]),(11,[]),(12,[]),(13,[]),(14,[]),(15,[])])
 | _=>([],[])
def Tryz.F5:Nat→List Nat×List (Nat×List Nat)
 | 1=>([0,0,3,7,0,0,48,112,255],[(0,[]),(1,[]),(2,[]),(3,[]),(4,[]),(5,[]),(6,[]),(7,[]),(8,[])])
 | _=>([],[])
def Tryz.Ha:Nat→List Nat×List (Nat×List Nat)
 | 3=>([0,0,2,7,15,0,32,127,255],[(0,[]),(1,[]),(2,[]),(3,[]),(4,[]),(5,[]),(6,[]),(7,[]),(8,[])])
 | 6=>([0,0,2,7,15,0,0,64,224,480,1023,0,2048,8191,0,16384,49152,114688,0,262144,786432,1835008,4194303,8388607],[(0,[]),(1,[]),(2,[]),(3,[]),(4,[]),(5,[]),(6,[]),(7,[]),(8,[]),(9,[]),(11,[]),(12,[]),(14,[]),(15,[]),(16,[]),(17,[]),(18,[]),(19,[]),(20,[]),(21,[]),(10,[12,16,20]),(13,[]),(22,[]),(23,[])])
 | 7=>([0,0,2,7,15,0,0,64,224,480,1023,2047],[(0,[]),(1,[]),(2,[]),(3,[]),(4,[]),(5,[]),(6,[]),(7,[]),(8,[]),(9,[]),(10,[]),(11,[])])
 | _=>([],[])
def Tryz.FB:Nat→List Nat×List (Nat×List Nat)
 | 1=>([0,0,2,6,0,16,48,127,0,256,768,2047,0,4096,12288,28672,61440,0,131072,393216,917504,1966080,4194303,8388607],[(0,[]),(1,[]),(2,[]),(3,[]),(4,[]),(5,[]),(6,[]),(8,[]),(9,[]),(10,[]),(12,[]),(13,[]),(14,[]),(15,[]),(16,[]),(17,[]),(18,[]),(19,[]),(20,[]),(21,[]),(7,[10,15,20]),(11,[]),(22,[]),(23,[])])
 | _=>([],[])
def Tryz.Fq:Nat→List Nat×List (Nat×List Nat)
 | 1=>([0,1,3,7,15,0,32,96,224,480,1023,2047],[(0,[]),(1,[]),(2,[]),(3,[]),(4,[]),(5,[]),(6,[]),(7,[]),(8,[]),(9,[]),(10,[]),(11,[])])
 | _=>([],[])
end Go.Proofs
namespace Go.Proofs
def kq(b:Bool):List Nat→Nat→Bool
 | [],_=>b
 | a::l,t=>if t<a then b else kq (!b) l t
@[simp,go_sem] theorem VS{a t:Nat}{l:List Nat}:kq true (a::l) t=if t<a then true else kq false l t:=rfl
@[simp,go_sem] theorem VU{a t:Nat}{l:List Nat}:kq false (a::l) t=if t<a then false else kq true l t:=rfl
@[simp,go_sem] theorem VT{b:Bool}{t:Nat}:kq b [] t=b:=rfl
def Tryz.kp9(t:Nat):Bool:=kq true [7,10,26,32,33,41,42,131,132] t
def Tryz.RR(t:Nat):Bool:=kq true [1,2,5,10,11] t
def Tryz.Ra(t:Nat):Bool:=kq true [4,8,18,39,40,43,44,61,62,81,82] t
def Tryz.Rg(t:Nat):Bool:=kq true [3,6,7] t
def Tryz.QM(t:Nat):Bool:=kq true [4,5,7,14,15] t
def Tryz.Q2(t:Nat):Bool:=kq true [8,14,15,17,20,23,24,27,28,34,35] t
def Tryz.EL(t:Nat):Bool:=kq true [3,4,6,7,11,22,23,25,26,27,28,33,34,42,43] t
def Tryz.RX(t:Nat):Bool:=kq true [11] t
def Tryz.Qv(t:Nat):Bool:=kq true [4,12,13,21,22] t
def Tryz.Qm(t:Nat):Bool:=kq true [3] t
def Tryz.Rh(t:Nat):Bool:=kq true [5,6,8,9,10] t
def Tryz.QA(t:Nat):Bool:=kq true [6,17,18] t
def Tryz.Qg(t:Nat):Bool:=kq true [5,8,15,19,20,32,33] t
def Tryz.Se(t:Nat):Bool:=kq true [4,6,13,14,16,17,18,30,31,33,37,42,43,49,50,66,67] t
def Tryz.Rt(t:Nat):Bool:=kq true [10,54,55,75,76] t
def Tryz.QC(t:Nat):Bool:=kq true [2,4,5,6,7] t
def Tryz.Rf(t:Nat):Bool:=kq true [2,4,5,7,8] t
def Tryz.RG(t:Nat):Bool:=kq true [6,29,30,36,37,40,41,45,46,58,59,66,67,70,71,75,76,86,87] t
def Tryz.Qf(t:Nat):Bool:=kq true [2,4,7,18,19] t
def Tryz.RD(t:Nat):Bool:=kq true [2,4,7,18,19] t
def Tryz.Rw(t:Nat):Bool:=kq true [2,4,7,18,19] t
def Tryz.Qu(t:Nat):Bool:=kq true [5,6,9,16,17,21,22,26,27,30,31,37,38] t
def Tryz.Jm(t:Nat):Bool:=kq true [3,4,7,8,13,17,18,31,32,37,38,56,57,63,64] t
def Tryz.QF(t:Nat):Bool:=kq true [3,4,13,19,20,29,30,32,33,34,35,38,41,46,47] t
def Tryz.Rz(t:Nat):Bool:=kq true [3,4,7,8,14,17,18,25,26,33,34,38,39,44,45,71,72] t
def Tryz.QT(t:Nat):Bool:=kq true [2,4,5] t
def Tryz.RA(t:Nat):Bool:=kq true [3,6,7] t
def Tryz.QQ(t:Nat):Bool:=kq true [5,10,11] t
def Tryz.Rl(t:Nat):Bool:=kq true [4,5,7,8,13,50,51,61,62] t
def Tryz.Qr(t:Nat):Bool:=kq true [6,8,11,15,16,35,36] t
def Tryz.Rc(t:Nat):Bool:=kq true [8,14,15,18,21] t
def Tryz.R7(t:Nat):Bool:=kq true [3,4,9,10,12,18,19,21,25,28,29,36,37] t
def Tryz.Q4(t:Nat):Bool:=kq true [1,2,7,9,10,11,12,19,20] t
def Tryz.RO(t:Nat):Bool:=kq true [2,4,6,7,12,16,17] t
def Tryz.Sf(t:Nat):Bool:=kq true [3,4,5,10,11] t
def Tryz.Js(t:Nat):Bool:=kq true [1,2,3] t
def Tryz.Sj(t:Nat):Bool:=kq true [1,2,6,8,9,13,14,25,26,32,33,44,45] t
def Tryz.Rr(t:Nat):Bool:=kq true [2] t
def Tryz.P9(t:Nat):Bool:=kq true [1] t
def Tryz.Qd(t:Nat):Bool:=kq true [3] t
def Tryz.Q5(t:Nat):Bool:=kq true [1,2,3,5,6] t
def Tryz.QE(t:Nat):Bool:=kq true [5,8,12,18,19,20,21] t
def Tryz.Qz(t:Nat):Bool:=kq true [3,4,6,9,10,16,17] t
def Tryz.P5(t:Nat):Bool:=kq true [3,6,7] t
def Tryz.Di(t:Nat):Bool:=kq true [8,11,12,20,21] t
def Tryz.P7(t:Nat):Bool:=kq true [3,6,7] t
def Tryz.M9(t:Nat):Bool:=kq true [4,6,9,13,14,33,34] t
def Tryz.Mi(t:Nat):Bool:=kq true [7,35,36] t
def Tryz.L6(t:Nat):Bool:=kq true [1,2,4] t
def Tryz.Fb(t:Nat):Bool:=kq true [7,10,11] t
def Tryz.MQ(t:Nat):Bool:=kq true [5,9,10] t
def Tryz.NO(t:Nat):Bool:=kq true [6,7,8,11,12,18,19,22,23,27,28,33,34] t
def Tryz.Md(t:Nat):Bool:=kq true [2,4,5] t
def Tryz.ED(t:Nat):Bool:=kq true [3,4,7,9,11,13,14] t
def Tryz.ES(t:Nat):Bool:=kq true [5,8,11,15,16,19,20,26,27,43,44,47,48] t
def Tryz.MJ(t:Nat):Bool:=kq true [2,4,7,10,11,18,19] t
def Tryz.Nx(t:Nat):Bool:=kq true [11,16,17,26,27,38,39,51,52] t
def Tryz.Nc(t:Nat):Bool:=kq true [6,8,11,25,26] t
def Tryz.Nz(t:Nat):Bool:=kq true [1,2,6,8,10,13,14] t
def Tryz.MW(t:Nat):Bool:=kq true [8,10,12] t
def Tryz.D8(t:Nat):Bool:=kq true [4] t
def Tryz.DL(t:Nat):Bool:=kq true [3,4,11,15,16,22,23,31,32,37,38,45,48] t
def Tryz.Mo(t:Nat):Bool:=kq true [5,10,11] t
def Tryz.Mk(t:Nat):Bool:=kq true [6,9,10,16,17] t
def Tryz.L3(t:Nat):Bool:=kq true [2,4,6,7,8,19,23] t
def Tryz.MY(t:Nat):Bool:=kq true [4] t
def Tryz.xn(t:Nat):Bool:=kq true [3,4,10,11,13,22,23,25,29,37,38] t
def Tryz.MP(t:Nat):Bool:=kq true [3,4,5,6,9,13,14,18,19,24,28,30,31,39,40,45,46,56,57,58,62,70,71] t
def Tryz.NP(t:Nat):Bool:=kq true [3,4,9,13,14,20,21,29,30,41,42,54,56,74,75] t
def Tryz.MD(t:Nat):Bool:=kq true [5,6,13,14,16,24,25,32,33,35,36,47,48,49,50,61,62] t
def Tryz.Mg(t:Nat):Bool:=kq true [6,7,8,12,15,19,22,26,27,29,33,41,42] t
def Tryz.Me(t:Nat):Bool:=kq true [6,8,9,10,13,16,17] t
def Tryz.Mp(t:Nat):Bool:=kq true [2,4,5] t
def Tryz.Mm(t:Nat):Bool:=kq true [2,4,13,19,20,28,29,35,36] t
def Tryz.Np(t:Nat):Bool:=kq true [2,4,5] t
def Tryz.DD(t:Nat):Bool:=kq true [4,8,19,23,24,29,30,35,36,50,51,68,69,72,73,87,88,113,114] t
def Tryz.MB(t:Nat):Bool:=kq true [1,2,3] t
def Tryz.N5(t:Nat):Bool:=kq true [1,2,3] t
def Tryz.Na(t:Nat):Bool:=kq true [4,6,8,9,10,12,16,27,28] t
def Tryz.ML(t:Nat):Bool:=kq true [5,8,9] t
def Tryz.Ma(t:Nat):Bool:=kq true [4,5,7,31,32,39,40,45,49,51,52,59,60,68,69] t
def Tryz.bp(t:Nat):Bool:=kq true [10,15,19,34,37,54,55] t
def Tryz.Nr(t:Nat):Bool:=kq true [7,10,11,14,15,18,19,23,24,33,34,48,49,52,53,57,58,70,71] t
def Tryz.Nt(t:Nat):Bool:=kq true [8,11,12,17,18,22,23] t
def Tryz.M7(t:Nat):Bool:=kq true [5] t
def Tryz.Nj(t:Nat):Bool:=kq true [7,10,13,16,19,24,25] t
def Tryz.MZ(t:Nat):Bool:=kq true [4,6,10,14,15,20,21,43,44] t
def Tryz.Nl(t:Nat):Bool:=kq true [2,4,6,9,10,17,18] t
def Tryz.DK(t:Nat):Bool:=kq true [3,6,11,12,13,17,18,29,30] t
def Tryz.Nn(t:Nat):Bool:=kq true [2,4,5] t
def Tryz.NN(t:Nat):Bool:=kq true [3,4,5] t
def Tryz.MN(t:Nat):Bool:=kq true [2,4,5] t
def Tryz.Nu(t:Nat):Bool:=kq true [1,2,3] t
def Tryz.Ms(t:Nat):Bool:=kq true [4,5,6,7,11] t
def Tryz.M5(t:Nat):Bool:=kq true [3,4,7,10,11,13,14] t
def Tryz.MV(t:Nat):Bool:=kq true [3,4,5,11,12] t
def Tryz.Mh(t:Nat):Bool:=kq true [3,6,7] t
def Tryz.ME(t:Nat):Bool:=kq true [3,4,5,6,8,13,14] t
def Tryz.M8(t:Nat):Bool:=kq true [2,4,6,7,8,9,10,11,15,19,23] t
def Tryz.Mv(t:Nat):Bool:=kq true [4] t
def Tryz.No(t:Nat):Bool:=kq true [1,2,3] t
def Tryz.M3(t:Nat):Bool:=kq true [5,10,21,25,26,32,33,39,40,56,57,75,76,80,81,97,98,125,126] t
def Tryz.Nh(t:Nat):Bool:=kq true [2,4,7,11,14,16,17,19,20] t
def Tryz.MA(t:Nat):Bool:=kq true [2,4,6,7,10,16,17] t
def Tryz.Cf(t:Nat):Bool:=kq true [3,6,8,12,13,30,31] t
def Tryz.Nv(t:Nat):Bool:=kq true [3,6,13,32,33,34,35,49,50,51,52,54,55] t
def Tryz.MI(t:Nat):Bool:=kq true [3,6,11,14,15,32,33,37,38,41,42,61,62,65,66,78,79,98,99,103,104,116,117] t
def Tryz.MU(t:Nat):Bool:=kq true [2,4,5] t
def Tryz.L7(t:Nat):Bool:=kq true [1,2,3,4,5,8,9,14,15] t
def Tryz.Cj(t:Nat):Bool:=kq true [6] t
def Tryz.M1(t:Nat):Bool:=kq true [3,6,7] t
def Tryz.Nq(t:Nat):Bool:=kq true [4,6,7,20,21,25,26] t
def Tryz.N1(t:Nat):Bool:=kq true [3,4,7,10,11,12,13,17,18,24,25,33,34,45,46,56,57] t
def Tryz.CX(t:Nat):Bool:=kq true [3,4,8,13,14,16,17,30,31] t
def Tryz.Mx(t:Nat):Bool:=kq true [2,4,7,23,24] t
def Tryz.MR(t:Nat):Bool:=kq true [5] t
def Tryz.DN(t:Nat):Bool:=kq true [7,8,10,14,15,21,22,36,37,51,52] t
def Tryz.M6(t:Nat):Bool:=kq true [2,4,6,7,10,16,17] t
def Tryz.Dp(t:Nat):Bool:=kq true [3,4,8] t
def Tryz.Nw(t:Nat):Bool:=kq true [5] t
def Tryz.Cx(t:Nat):Bool:=kq true [7,8,9,10,12,16,21,26,27,44,45,55,56] t
def Tryz.xv(t:Nat):Bool:=kq true [2,3,11,12,14,38,39,48,49,55,57,73,74] t
def Tryz.Mj(t:Nat):Bool:=kq true [1,2,3] t
def Tryz.MX(t:Nat):Bool:=kq true [4,8,10,14,15,34,35] t
def Tryz.NQ(t:Nat):Bool:=kq true [1,2,3] t
def Tryz.Mn(t:Nat):Bool:=kq true [5,10,11] t
def Tryz.NB(t:Nat):Bool:=kq true [3,4,6,10,11,22,23] t
def Tryz.Nb(t:Nat):Bool:=kq true [6] t
def Tryz.Ni(t:Nat):Bool:=kq true [4,6,7] t
def Tryz.Ns(t:Nat):Bool:=kq true [1,2,3] t
def Tryz.Nf(t:Nat):Bool:=kq true [4,8,10,18,19] t
def Tryz.L8(t:Nat):Bool:=kq true [3,5,8,9,11,40,41] t
def Tryz.Mc(t:Nat):Bool:=kq true [2,4,5] t
def Tryz.Mf(t:Nat):Bool:=kq true [5] t
def Tryz.Mw(t:Nat):Bool:=kq true [5] t
end Go.Proofs
namespace Go.Proofs
open Go Go.Mu
theorem yW{xs:List Int}(h:xs.length=6):∃x1 x2 x3 x4 x5 x6,xs=[x1,x2,x3,x4,x5,x6]:=by
 match xs,h with
 | [x1,x2,x3,x4,x5,x6],_=>exact⟨x1,x2,x3,x4,x5,x6,rfl⟩
theorem lQ{xs:List Int}(h:xs.length=4):∃x1 x2 x3 x4,xs=[x1,x2,x3,x4]:=by
 match xs,h with
 | [x1,x2,x3,x4],_=>exact⟨x1,x2,x3,x4,rfl⟩
theorem oL{xs:List Int}(h:xs.length=2):∃x1 x2,xs=[x1,x2]:=by
 match xs,h with
 | [x1,x2],_=>exact⟨x1,x2,rfl⟩
theorem Tryz.VN(e:Bool)(d:Nat)(x:Int)(w:World):(Instr.checkKey e (d+1) 3 (.int .i64 x)).run Tryz.prog w= .ok () w:=by
 have hu:∀w,(underlying 3).run Tryz.prog w= .ok (.int .i64) w:=fun w=>run_underlying Tryz.underlying3 w
 simp only[Instr.checkKey,Sem.run_bind,hu,Result.andThen_ok,Sem.run_pure]
theorem Tryz.M4(d:Nat)(a1 a2 b1 b2:Int)(w:World):(Op.equalIn (d+2) 26 (.agg #[.int .i64 a1,.int .i64 a2]) (.agg #[.int .i64 b1,.int .i64 b2])).run Tryz.prog w= .ok (a1==b1&&(a2==b2)) w:=by
 rw[run_equalIn_struct w (d+1) 26 _ _ (by simp only[Program.fieldsOf,Tryz.underlying26]) (by kernel_rfl)]
 simp only[Program.fieldsOf,Tryz.underlying26]
 have ha3:∀w,(isAgg 3).run Tryz.prog w= .ok false w:=fun w=>iW (ty:=Tryz.ty) Tryz.gV (by rw[Tryz.ty3];rfl) w
 have hs3:∀w,(Go.sizeOf 3).run Tryz.prog w= .ok 1 w:=fun w=>aY (ty:=Tryz.ty) Tryz.gV (by rw[Tryz.ty3];simp) w
 by_cases h1:a1=b1<;> by_cases h2:a2=b2<;> simp[Op.eqFields,part,ha3,hs3,run_equalIn_int _ _ _ _ _ _ _ Tryz.underlying3,h1,h2]
theorem Tryz.Uv(d:Nat)(a1 a2 b1 b2:Int)(w:World):(Op.equalIn (d+2) 67 (.agg #[.int .i64 a1,.int .i64 a2]) (.agg #[.int .i64 b1,.int .i64 b2])).run Tryz.prog w= .ok (a1==b1&&(a2==b2)) w:=by
 rw[run_equalIn_struct w (d+1) 67 _ _ (by simp only[Program.fieldsOf,Tryz.underlying67]) (by kernel_rfl)]
 simp only[Program.fieldsOf,Tryz.underlying67]
 have ha3:∀w,(isAgg 3).run Tryz.prog w= .ok false w:=fun w=>iW (ty:=Tryz.ty) Tryz.gV (by rw[Tryz.ty3];rfl) w
 have hs3:∀w,(Go.sizeOf 3).run Tryz.prog w= .ok 1 w:=fun w=>aY (ty:=Tryz.ty) Tryz.gV (by rw[Tryz.ty3];simp) w
 by_cases h1:a1=b1<;> by_cases h2:a2=b2<;> simp[Op.eqFields,part,ha3,hs3,run_equalIn_int _ _ _ _ _ _ _ Tryz.underlying3,h1,h2]
theorem Tryz.P6(d:Nat)(a1 a2 a3 a4 a5 a6 b1 b2 b3 b4 b5 b6:Int)(w:World):(Op.equalIn (d+3) 105 (.agg #[.int .i64 a1,.int .i64 a2,.int .i64 a3,.int .i64 a4,.int .i64 a5,.int .i64 a6]) (.agg #[.int .i64 b1,.int .i64 b2,.int .i64 b3,.int .i64 b4,.int .i64 b5,.int .i64 b6])).run Tryz.prog w= .ok (a1==b1&&(a2==b2&&(a3==b3&&(a4==b4&&(a5==b5&&(a6==b6)))))) w:=by
 rw[run_equalIn_struct w (d+2) 105 _ _ (by simp only[Program.fieldsOf,Tryz.underlying105]) (by kernel_rfl)]
 simp only[Program.fieldsOf,Tryz.underlying105]
 have ha3:∀w,(isAgg 3).run Tryz.prog w= .ok false w:=fun w=>iW (ty:=Tryz.ty) Tryz.gV (by rw[Tryz.ty3];rfl) w
 have hs3:∀w,(Go.sizeOf 3).run Tryz.prog w= .ok 1 w:=fun w=>aY (ty:=Tryz.ty) Tryz.gV (by rw[Tryz.ty3];simp) w
 have ha26:∀w,(isAgg 26).run Tryz.prog w= .ok true w:=fun w=>iW (ty:=Tryz.ty) Tryz.gV (by rw[Tryz.K8];rfl) w
 have hs26:∀w,(Go.sizeOf 26).run Tryz.prog w= .ok 2 w:=fun w=>aY (ty:=Tryz.ty) Tryz.gV (by rw[Tryz.K8];simp) w
 by_cases h1:a1=b1<;> by_cases h2:a2=b2<;> by_cases h3:a3=b3<;> by_cases h4:a4=b4<;> by_cases h5:a5=b5<;> by_cases h6:a6=b6<;> simp[Op.eqFields,part,ha3,ha26,hs3,hs26,run_equalIn_int _ _ _ _ _ _ _ Tryz.underlying3,Tryz.M4,h1,h2,h3,h4,h5,h6]
theorem Tryz.HD(d:Nat)(a1 a2 a3 a4 b1 b2 b3 b4:Int)(w:World):(Op.equalIn (d+2) 127 (.agg #[.int .i64 a1,.int .i64 a2,.int .i64 a3,.int .i64 a4]) (.agg #[.int .i64 b1,.int .i64 b2,.int .i64 b3,.int .i64 b4])).run Tryz.prog w= .ok (a1==b1&&(a2==b2&&(a3==b3&&(a4==b4)))) w:=by
 have hu:∀w,(underlying 127).run Tryz.prog w= .ok (.array 4 3) w:=fun w=>run_underlying Tryz.underlying127 w
 have ha3:∀w,(isAgg 3).run Tryz.prog w= .ok false w:=fun w=>iW (ty:=Tryz.ty) Tryz.gV (by rw[Tryz.ty3];rfl) w
 have hs3:∀w,(Go.sizeOf 3).run Tryz.prog w= .ok 1 w:=fun w=>aY (ty:=Tryz.ty) Tryz.gV (by rw[Tryz.ty3];simp) w
 rw[show d+2=(d+1)+1 from rfl,Op.equalIn]
 by_cases h1:a1=b1<;> by_cases h2:a2=b2<;> by_cases h3:a3=b3<;> by_cases h4:a4=b4<;> simp[hu,Std.Legacy.Range.forIn_eq_forIn_range',Std.Legacy.Range.size,List.range',part,ha3,hs3,run_equalIn_int _ _ _ _ _ _ _ Tryz.underlying3,h1,h2,h3,h4]
theorem Tryz.RP(e:Bool)(d:Nat)(a1 a2 a3 a4:Int)(w:World):(Instr.checkKey e (d+2) 127 (.agg #[.int .i64 a1,.int .i64 a2,.int .i64 a3,.int .i64 a4])).run Tryz.prog w= .ok () w:=by
 have hu:=fun w=>run_underlying Tryz.underlying127 w
 have ha3:∀w,(isAgg 3).run Tryz.prog w= .ok false w:=fun w=>iW (ty:=Tryz.ty) Tryz.gV (by rw[Tryz.ty3];rfl) w
 have hs3:∀w,(Go.sizeOf 3).run Tryz.prog w= .ok 1 w:=fun w=>aY (ty:=Tryz.ty) Tryz.gV (by rw[Tryz.ty3];simp) w
 rw[show d+2=(d+1)+1 from rfl,Instr.checkKey]
 simp[hu,Std.Legacy.Range.forIn_eq_forIn_range',Std.Legacy.Range.size,List.range',part,ha3,hs3,Tryz.VN]
theorem Tryz.Tt:oN Tryz.prog Tryz.ty:=by
 have heqn:∀t,(Tryz.ty t).eqn=true→t=26∨t=67∨t=105∨t=127:=by
  intro t ht
  unfold Tryz.ty Af at ht
  cases hf:Tryz.tyl.find? (fun p=>p.1==t) with
  | none=>rw[hf] at ht;cases ht
  | some p=>
   have h1:=List.mem_of_find?_eq_some hf
   have h2:=List.find?_some hf
   simp at h2;subst h2
   rw[hf] at ht
   have h3:(Tryz.tyl.all fun p=> !p.2.eqn||(p.1==26||p.1==67||p.1==105||p.1==127))=true:=rfl
   have h4:=List.all_eq_true.1 h3 p h1
   have ht':p.2.eqn=true:=ht
   simpa[ht',or_assoc] using h4
 have hkeyn:∀t,(Tryz.ty t).keyn=true→t=127:=by
  intro t ht
  unfold Tryz.ty Af at ht
  cases hf:Tryz.tyl.find? (fun p=>p.1==t) with
  | none=>rw[hf] at ht;cases ht
  | some p=>
   have h1:=List.mem_of_find?_eq_some hf
   have h2:=List.find?_some hf
   simp at h2;subst h2
   rw[hf] at ht
   have h3:(Tryz.tyl.all fun p=> !p.2.keyn||(p.1==127))=true:=rfl
   have h4:=List.all_eq_true.1 h3 p h1
   have ht':p.2.keyn=true:=ht
   simpa[ht',or_assoc] using h4
 refine⟨fun t ht=>?_,fun t ht xs ys w h1 h2=>?_,fun t ht=>?_,fun t ht xs ys w h1 h2=>?_,fun t ht e xs w h1=>?_⟩
 ·rcases heqn t ht with rfl | rfl | rfl | rfl<;> kernel_rfl
 ·rcases heqn t ht with rfl | rfl | rfl | rfl
  ·obtain⟨u1,u2,rfl⟩:=oL h1
   obtain⟨v1,v2,rfl⟩:=oL h2
   have:=Tryz.M4 9998 u1 u2 v1 v2 w
   simpa[Op.equal,Op.maxDepth] using this
  ·obtain⟨u1,u2,rfl⟩:=oL h1
   obtain⟨v1,v2,rfl⟩:=oL h2
   have:=Tryz.Uv 9998 u1 u2 v1 v2 w
   simpa[Op.equal,Op.maxDepth] using this
  ·obtain⟨u1,u2,u3,u4,u5,u6,rfl⟩:=yW h1
   obtain⟨v1,v2,v3,v4,v5,v6,rfl⟩:=yW h2
   have:=Tryz.P6 9997 u1 u2 u3 u4 u5 u6 v1 v2 v3 v4 v5 v6 w
   simpa[Op.equal,Op.maxDepth] using this
  ·obtain⟨u1,u2,u3,u4,rfl⟩:=lQ h1
   obtain⟨v1,v2,v3,v4,rfl⟩:=lQ h2
   have:=Tryz.HD 9998 u1 u2 u3 u4 v1 v2 v3 v4 w
   simpa[Op.equal,Op.maxDepth] using this
 ·rcases hkeyn t ht with rfl<;> (intro h;cases h)
 ·rcases hkeyn t ht with rfl
  ·obtain⟨u1,u2,u3,u4,rfl⟩:=lQ h1
   obtain⟨v1,v2,v3,v4,rfl⟩:=lQ h2
   have:=Tryz.HD 9998 u1 u2 u3 u4 v1 v2 v3 v4 w
   simpa[Op.equal,Op.maxDepth] using this
 ·rcases hkeyn t ht with rfl
  ·obtain⟨u1,u2,u3,u4,rfl⟩:=lQ h1
   exact Tryz.RP e 9998 u1 u2 u3 u4 w
theorem o6{P:Program}{t:TypeId}{s:String}{f:FuncId}{fs:Array Field}(h1:((P.info? t).bind fun i=>i.methods.find? fun m=>m.name==s).map (fun m=>(m.path.toList,m.func))=some ([],some (f,false)))
  (h2:P.underlying t=some (.struct fs)) (n:Nat) (c:Value) (w:World):(method (n+1) t c s).run P w= .ok (f,c) w:=by
 cases hi:P.info? t with
 | none=>rw[hi] at h1;cases h1
 | some i=>
  rw[hi] at h1
  simp only[Option.bind_some] at h1
  cases hm:i.methods.find? (fun m=>m.name==s) with
  | none=>rw[hm] at h1;cases h1
  | some m=>
   rw[hm] at h1
   simp only[Option.map_some,Option.some.injEq,Prod.mk.injEq] at h1
   obtain⟨hp,hf⟩:=h1
   have hpe:m.path= #[]:=by apply Array.ext';simpa using hp
   simp[method,typeInfo,underlying,hi,hm,hpe,hf,follow,receiverAt,h2,Place.get,Sem.run_bind,Result.andThen_ok]
theorem pZ{P:Program}{t:TypeId}{s:String}{f:FuncId}{fs:Array Field}(h1:((P.info? t).bind fun i=>i.methods.find? fun m=>m.name==s).map (fun m=>(m.path.toList,m.func))=some ([],some (f,false)))
  (h2:P.underlying t=some (.struct fs)) (n:Nat) (c:Value):Tm P (method (n+1) t c s) fun r=>r.1=f:=by
 unfold method typeInfo
 refine ab (ab (dp ?_))
 split
 ·rename_i i hi
  rw[hi] at h1
  simp only[Option.bind_some] at h1
  refine bD ?_
  cases hm:i.methods.find? (fun m=>m.name==s) with
  | none=>rw[hm] at h1;cases h1
  | some m=>
   rw[hm] at h1
   simp only[Option.map_some,Option.some.injEq,Prod.mk.injEq] at h1
   obtain⟨hp,hf⟩:=h1
   have hpe:m.path= #[]:=by apply Array.ext';simpa using hp
   simp only[hpe,hf,follow]
   refine ab (bD ?_)
   refine ab ?_
   unfold receiverAt
   refine ab (cF fun d hd=>?_)
   rw[h2] at hd
   simp only[Option.some.injEq] at hd
   subst hd
   exact rfl
 ·trivial
def Tryz.mt(t:TypeId)(s:String):Option FuncId:=if s= "musette/meter.is" then(if t=252 then some 229 else if t=254 then some 257 else if t=255 then some 258 else none) else none
theorem Tryz.U0(t:TypeId)(s:String)(f:FuncId)(h:Tryz.mt t s=some f)(c:Value)(w:World):(method (Tryz.prog.types.size+Made.depth) t c s).run Tryz.prog w= .ok (f,c) w:=by
 have hn:Tryz.prog.types.size+Made.depth=(Tryz.prog.types.size+(Made.depth-1))+1:=by
  have:1≤Made.depth:=by decide
  omega
 rw[hn]
 unfold Tryz.mt at h
 split at h
 ·rename_i hs;subst hs
  split at h
  ·rename_i ht;subst ht;simp at h;subst h
   exact o6 (by kernel_rfl) Tryz.underlying252 _ c w
  ·split at h
   ·rename_i ht;subst ht;simp at h;subst h
    exact o6 (by kernel_rfl) Tryz.underlying254 _ c w
   ·split at h
    ·rename_i ht;subst ht;simp at h;subst h
     exact o6 (by kernel_rfl) Tryz.underlying255 _ c w
    ·cases h
 ·cases h
set_option maxRecDepth 200000 in
theorem Tryz.UC(t:TypeId)(s:String)(f:FuncId)(h:Tryz.mt t s=some f)(c:Value):Tm Tryz.prog (method (Tryz.prog.types.size+Made.depth) t c s) fun r=>r.1=f:=by
 have hn:Tryz.prog.types.size+Made.depth=(Tryz.prog.types.size+(Made.depth-1))+1:=by
  have:1≤Made.depth:=by decide
  omega
 rw[hn]
 unfold Tryz.mt at h
 split at h
 ·rename_i hs;subst hs
  split at h
  ·rename_i ht;subst ht;simp at h;subst h
   exact pZ (by kernel_rfl) Tryz.underlying252 _ c
  ·split at h
   ·rename_i ht;subst ht;simp at h;subst h
    exact pZ (by kernel_rfl) Tryz.underlying254 _ c
   ·split at h
    ·rename_i ht;subst ht;simp at h;subst h
     exact pZ (by kernel_rfl) Tryz.underlying255 _ c
    ·cases h
 ·cases h
noncomputable def Tryz.E {S:MC Tryz.prog} (N:Nat) (ord:Nat→List Nat×List (Nat×List Nat)) (fs:FuncId→List AV→Option AV):Env:={P:=Tryz.prog,S:=S,ty:=Tryz.ty,N:=N,mt:=Tryz.mt,ord:=ord,fs:=fs}
theorem Tryz.EN{S:MC Tryz.prog}{N:Nat}{ord:Nat→List Nat×List (Nat×List Nat)}{fs:FuncId→List AV→Option AV}:(Tryz.E (S:=S) N ord fs).N=N:=rfl
theorem Tryz.Emt{S:MC Tryz.prog}{N:Nat}{ord:Nat→List Nat×List (Nat×List Nat)}{fs:FuncId→List AV→Option AV}:(Tryz.E (S:=S) N ord fs).mt=Tryz.mt:=rfl
theorem Tryz.EP{S:MC Tryz.prog}{N:Nat}{ord:Nat→List Nat×List (Nat×List Nat)}{fs:FuncId→List AV→Option AV}:(Tryz.E (S:=S) N ord fs).P=Tryz.prog:=rfl
theorem Tryz.Ety{S:MC Tryz.prog}{N:Nat}{ord:Nat→List Nat×List (Nat×List Nat)}{fs:FuncId→List AV→Option AV}:(Tryz.E (S:=S) N ord fs).ty=Tryz.ty:=rfl
theorem Tryz.Ve{S:MC Tryz.prog}{N:Nat}{ord:Nat→List Nat×List (Nat×List Nat)}{fs:FuncId→List AV→Option AV}:(Tryz.E (S:=S) N ord fs).ord=ord:=rfl
theorem Tryz.Efs{S:MC Tryz.prog}{N:Nat}{ord:Nat→List Nat×List (Nat×List Nat)}{fs:FuncId→List AV→Option AV}:(Tryz.E (S:=S) N ord fs).fs=fs:=rfl
theorem Tryz.Lh:Tryz.mt 252 "musette/meter.is" = some 229:=rfl
theorem Tryz.Oo:Tryz.mt 254 "musette/meter.is" = some 257:=rfl
theorem Tryz.Ie:Tryz.mt 255 "musette/meter.is" = some 258:=rfl
set_option maxRecDepth 200000 in
theorem Tryz.ah{S:MC Tryz.prog}(N:Nat)(ord:Nat→List Nat×List (Nat×List Nat))(fs:FuncId→List AV→Option AV)(h:∀f xs v,fs f xs=some v→al S f xs v):cm (Tryz.E (S:=S) N ord fs):=⟨Tryz.gV,Tryz.Tt,Tryz.U0,Tryz.UC,by kernel_rfl,h⟩
def fs0:FuncId→List AV→Option AV:=fun _ _=>none
theorem aD{S:MC Tryz.prog}:∀f xs v,fs0 f xs=some v→al S f xs v:=fun _ _ _ h=>by cases h
theorem aW.of{P:Program}{f:FuncId}{fn:Func}(h1:P.funcs[f]? = some fn)(h2:fn.body.isNone=false)(h3:(fn.name== "runtime.NumGoroutine")=false):aW P f:=⟨fn,h1,h3,h2⟩
theorem Tryz.ES_{S:MC Tryz.prog}{N:Nat}{ord:Nat→List Nat×List (Nat×List Nat)}{fs:FuncId→List AV→Option AV}:(Tryz.E (S:=S) N ord fs).S=S:=rfl
attribute [go_sem] Tryz.ES_
theorem PvE{E:Env}(hE:cm E){f:FuncId}{fn:Func}{c:Code}{args:List AV}{v:AV}(hp:Plain v)(kp:Nat→Bool)(hf:E.P.funcs[f]? = some fn)(hb:fn.body=some c)
  (h:∀σ,ev E none 100000 [.code c] ⟨kp,[],number 0 args⟩ σ (dg E fn.results.toList (jH σ v)))
  (hN:fn.ntmps=E.N:=by kernel_rfl) (hA:args.length≤E.N:=by simp[Tryz.E]) (h2:fn.body.isNone=false:=by kernel_rfl) (h3:(fn.name== "runtime.NumGoroutine")=false:=by kernel_rfl) (hO:dG E [.code c]=true:=by kernel_rfl):al E.S f args v:=
 al.uL hE hp kp hf hb hN hA (aW.of hf h2 h3) hO h
theorem AcE{E:Env}(hE:cm E){f:FuncId}{fn:Func}{c:Code}{args:List AV}{σ:List aa}{Q:AV→List aa→Prop}(kp:Nat→Bool)(hf:E.P.funcs[f]? = some fn)(hb:fn.body=some c)
  (h:ev E none 100000 [.code c] ⟨kp,[],number 0 args⟩ σ (dg E fn.results.toList Q))
  (hN:fn.ntmps=E.N:=by kernel_rfl) (hA:args.length≤E.N:=by simp[Tryz.E]) (h2:fn.body.isNone=false:=by kernel_rfl) (h3:(fn.name== "runtime.NumGoroutine")=false:=by kernel_rfl) (hO:dG E [.code c]=true:=by kernel_rfl):ao E.S f args σ Q:=
 ao.uL hE kp hf hb hN hA (aW.of hf h2 h3) hO h
end Go.Proofs
