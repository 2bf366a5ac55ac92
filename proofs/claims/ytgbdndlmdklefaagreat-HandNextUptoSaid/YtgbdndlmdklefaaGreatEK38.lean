/- The environment in which the first append to an empty literal of some types gives a slice that is written into. -/
import Derived.Test.YtgbdndlmdklefaaGreatEK13
import Derived.Test.YtgbdndlmdklefaaGreatEK37
import Derived.Test.YtgbdndlmdklefaaGreatEK34
import Derived.Test.YtgbdndlmdklefaaGreatEK35
import Derived.Test.YtgbdndlmdklefaaGreatEK36
import Derived.Test.YtgbdndlmdklefaaGreatEK30
set_option linter.unusedSimpArgs false
set_option linter.unusedVariables false
set_option maxRecDepth 100000
set_option maxHeartbeats 40000000
namespace Go.Proofs
open Go Go.Mu
def vTy(t:Nat):Bool:=t==28
def Tryz.tyW(t:Nat):TI:=if vTy t=true then(Tryz.ty t).v else Tryz.ty t
theorem Tryz.tyW_kd(t:Nat):(Tryz.tyW t).kd=(Tryz.ty t).kd:=by unfold Tryz.tyW;split<;> rfl
theorem Tryz.tyW_sz(t:Nat):(Tryz.tyW t).sz=(Tryz.ty t).sz:=by unfold Tryz.tyW;split<;> rfl
theorem Tryz.tyW_bytes(t:Nat):(Tryz.tyW t).bytes=(Tryz.ty t).bytes:=by unfold Tryz.tyW;split<;> rfl
theorem Tryz.tyW_zero(t:Nat):(Tryz.tyW t).zero=(Tryz.ty t).zero:=by unfold Tryz.tyW;split<;> rfl
theorem Tryz.tyW_eqn(t:Nat):(Tryz.tyW t).eqn=(Tryz.ty t).eqn:=by unfold Tryz.tyW;split<;> rfl
theorem Tryz.tyW_keyn(t:Nat):(Tryz.tyW t).keyn=(Tryz.ty t).keyn:=by unfold Tryz.tyW;split<;> rfl
theorem Tryz.tysOKW:TysOK Tryz.prog Tryz.tyW:=fun t h=>by
 rw[Tryz.tyW_kd] at h
 have h2:=Tryz.tysOK t h
 exact⟨by rw[Tryz.tyW_sz,Tryz.tyW_bytes,Tryz.tyW_zero];exact h2.info,by rw[Tryz.tyW_kd];exact h2.kd⟩
theorem Tryz.tyW1:Tryz.tyW 1=⟨1,8,.func,.nilfn,false,false,false⟩:=rfl
theorem Tryz.tyW2:Tryz.tyW 2=⟨1,8,.int .i64,.int .i64 0,false,false,false⟩:=rfl
theorem Tryz.tyW3:Tryz.tyW 3=⟨1,8,.int .i64,.int .i64 0,false,false,false⟩:=rfl
theorem Tryz.tyW4:Tryz.tyW 4=⟨1,1,.bool,.bool false,false,false,false⟩:=rfl
theorem Tryz.tyW5:Tryz.tyW 5=⟨1,1,.int .u8,.int .u8 0,false,false,false⟩:=rfl
theorem Tryz.tyW6:Tryz.tyW 6=⟨1,1,.int .u8,.int .u8 0,false,false,false⟩:=rfl
theorem Tryz.tyW8:Tryz.tyW 8=⟨4,24,.strct [(0,2),(1,3),(2,4),(3,6)],.agg [.int .i64 0,.int .i64 0,.bool false,.int .u8 0],false,false,false⟩:=rfl
theorem Tryz.tyW9:Tryz.tyW 9=⟨1,16,.str,.str ByteArray.empty,false,false,false⟩:=rfl
theorem Tryz.tyW10:Tryz.tyW 10=⟨1,16,.str,.str ByteArray.empty,false,false,false⟩:=rfl
theorem Tryz.tyW11:Tryz.tyW 11=⟨1,16,.str,.str ByteArray.empty,false,false,false⟩:=rfl
theorem Tryz.tyW12:Tryz.tyW 12=⟨1,8,.int .u64,.int .u64 0,false,false,false⟩:=rfl
theorem Tryz.tyW14:Tryz.tyW 14=⟨2,24,.strct [(0,9),(1,12)],.agg [.str ByteArray.empty,.int .u64 0],false,false,false⟩:=rfl
theorem Tryz.tyW15:Tryz.tyW 15=⟨1,8,.ptr 281,.nilptr,false,false,false⟩:=rfl
theorem Tryz.tyW16:Tryz.tyW 16=⟨1,8,.ptr 284,.nilptr,false,false,false⟩:=rfl
theorem Tryz.tyW17:Tryz.tyW 17=⟨1,8,.ptr 292,.nilptr,false,false,false⟩:=rfl
theorem Tryz.tyW19:Tryz.tyW 19=⟨1,8,.strct [(0,17)],.agg [.nilptr],false,false,false⟩:=rfl
theorem Tryz.tyW22:Tryz.tyW 22=⟨1,24,.slice 3,.list .full 0 [],false,false,false⟩:=rfl
theorem Tryz.tyW23:Tryz.tyW 23=⟨1,8,.ptr 116,.nilptr,false,false,false⟩:=rfl
theorem Tryz.tyW26:Tryz.tyW 26=⟨2,16,.strct [(0,3),(1,3)],.agg [.int .i64 0,.int .i64 0],true,false,false⟩:=rfl
theorem Tryz.tyW27:Tryz.tyW 27=⟨1,24,.slice 67,.list .full 0 [],false,false,false⟩:=rfl
theorem Tryz.tyW28:Tryz.tyW 28=⟨1,24,.slice 51,.list .full 0 [],false,true,false⟩:=rfl
theorem Tryz.tyW30:Tryz.tyW 30=⟨6,80,.strct [(0,3),(1,3),(2,26),(4,27),(5,28)],.agg [.int .i64 0,.int .i64 0,.int .i64 0,.int .i64 0,.list .full 0 [],.list .full 0 []],false,false,false⟩:=rfl
theorem Tryz.tyW32:Tryz.tyW 32=⟨2,48,.strct [(0,22),(1,22)],.agg [.list .full 0 [],.list .full 0 []],false,false,false⟩:=rfl
theorem Tryz.tyW36:Tryz.tyW 36=⟨1,24,.slice 22,.list .full 0 [],false,false,false⟩:=rfl
theorem Tryz.tyW37:Tryz.tyW 37=⟨1,8,.int .i64,.int .i64 0,false,false,false⟩:=rfl
theorem Tryz.tyW46:Tryz.tyW 46=⟨1,24,.slice 26,.list .full 0 [],false,false,false⟩:=rfl
theorem Tryz.tyW47:Tryz.tyW 47=⟨1,24,.slice 105,.list .full 0 [],false,false,false⟩:=rfl
theorem Tryz.tyW49:Tryz.tyW 49=⟨3,56,.strct [(0,3),(1,46),(2,47)],.agg [.int .i64 0,.list .full 0 [],.list .full 0 []],false,false,false⟩:=rfl
theorem Tryz.tyW51:Tryz.tyW 51=⟨6,80,.strct [(0,3),(1,3),(2,3),(3,49)],.agg [.int .i64 0,.int .i64 0,.int .i64 0,.int .i64 0,.list .full 0 [],.list .full 0 []],false,false,false⟩:=rfl
theorem Tryz.tyW54:Tryz.tyW 54=⟨1,24,.slice 30,.list .full 0 [],false,false,false⟩:=rfl
theorem Tryz.tyW64:Tryz.tyW 64=⟨1,8,.func,.nilfn,false,false,false⟩:=rfl
theorem Tryz.tyW67:Tryz.tyW 67=⟨2,16,.strct [(0,3),(1,3)],.agg [.int .i64 0,.int .i64 0],true,false,false⟩:=rfl
theorem Tryz.tyW105:Tryz.tyW 105=⟨6,48,.strct [(0,3),(1,3),(2,3),(3,3),(4,26)],.agg [.int .i64 0,.int .i64 0,.int .i64 0,.int .i64 0,.int .i64 0,.int .i64 0],true,false,false⟩:=rfl
theorem Tryz.tyW109:Tryz.tyW 109=⟨6,48,.strct [(0,26),(2,26),(4,26)],.agg [.int .i64 0,.int .i64 0,.int .i64 0,.int .i64 0,.int .i64 0,.int .i64 0],false,false,false⟩:=rfl
theorem Tryz.tyW111:Tryz.tyW 111=⟨9,72,.strct [(0,26),(2,26),(4,26),(6,26),(8,3)],.agg [.int .i64 0,.int .i64 0,.int .i64 0,.int .i64 0,.int .i64 0,.int .i64 0,.int .i64 0,.int .i64 0,.int .i64 0],false,false,false⟩:=rfl
theorem Tryz.tyW113:Tryz.tyW 113=⟨18,160,.strct [(0,109),(6,111),(15,46),(16,3),(17,3)],.agg [.int .i64 0,.int .i64 0,.int .i64 0,.int .i64 0,.int .i64 0,.int .i64 0,.int .i64 0,.int .i64 0,.int .i64 0,.int .i64 0,.int .i64 0,.int .i64 0,.int .i64 0,.int .i64 0,.int .i64 0,.list .full 0 [],.int .i64 0,.int .i64 0],false,false,false⟩:=rfl
theorem Tryz.tyW114:Tryz.tyW 114=⟨1,8,.int .u64,.int .u64 0,false,false,false⟩:=rfl
theorem Tryz.tyW116:Tryz.tyW 116=⟨1,8,.strct [(0,114)],.agg [.int .u64 0],false,false,false⟩:=rfl
theorem Tryz.tyW117:Tryz.tyW 117=⟨1,8,.int .u64,.int .u64 0,false,false,false⟩:=rfl
theorem Tryz.tyW119:Tryz.tyW 119=⟨7,104,.strct [(0,30),(6,36)],.agg [.int .i64 0,.int .i64 0,.int .i64 0,.int .i64 0,.list .full 0 [],.list .full 0 [],.list .full 0 []],false,false,false⟩:=rfl
theorem Tryz.tyW120:Tryz.tyW 120=⟨1,8,.map 127 4,.nilmap,false,false,false⟩:=rfl
theorem Tryz.tyW127:Tryz.tyW 127=⟨4,32,.arr 4 3,.agg [.int .i64 0,.int .i64 0,.int .i64 0,.int .i64 0],true,false,true⟩:=rfl
theorem Tryz.tyW144:Tryz.tyW 144=⟨1,8,.int .u64,.int .u64 0,false,false,false⟩:=rfl
theorem Tryz.tyW146:Tryz.tyW 146=⟨1,24,.slice 127,.list .full 0 [],false,false,false⟩:=rfl
theorem Tryz.tyW149:Tryz.tyW 149=⟨1,8,.ptr 51,.nilptr,false,false,false⟩:=rfl
theorem Tryz.tyW164:Tryz.tyW 164=⟨1,24,.slice 169,.list .full 0 [],false,false,false⟩:=rfl
theorem Tryz.tyW169:Tryz.tyW 169=⟨3,24,.arr 3 3,.agg [.int .i64 0,.int .i64 0,.int .i64 0],false,false,false⟩:=rfl
theorem Tryz.tyW170:Tryz.tyW 170=⟨1,8,.func,.nilfn,false,false,false⟩:=rfl
theorem Tryz.tyW179:Tryz.tyW 179=⟨1,24,.slice 37,.list .full 0 [],false,false,false⟩:=rfl
theorem Tryz.tyW181:Tryz.tyW 181=⟨1,8,.map 144 4,.nilmap,false,false,false⟩:=rfl
theorem Tryz.tyW184:Tryz.tyW 184=⟨1,8,.func,.nilfn,false,false,false⟩:=rfl
theorem Tryz.tyW189:Tryz.tyW 189=⟨1,8,.func,.nilfn,false,false,false⟩:=rfl
theorem Tryz.tyW190:Tryz.tyW 190=⟨1,8,.func,.nilfn,false,false,false⟩:=rfl
theorem Tryz.tyW192:Tryz.tyW 192=⟨1,8,.func,.nilfn,false,false,false⟩:=rfl
theorem Tryz.tyW195:Tryz.tyW 195=⟨1,8,.func,.nilfn,false,false,false⟩:=rfl
theorem Tryz.tyW197:Tryz.tyW 197=⟨1,8,.func,.nilfn,false,false,false⟩:=rfl
theorem Tryz.tyW198:Tryz.tyW 198=⟨1,8,.func,.nilfn,false,false,false⟩:=rfl
theorem Tryz.tyW202:Tryz.tyW 202=⟨1,8,.map 3 4,.nilmap,false,false,false⟩:=rfl
theorem Tryz.tyW203:Tryz.tyW 203=⟨1,8,.func,.nilfn,false,false,false⟩:=rfl
theorem Tryz.tyW205:Tryz.tyW 205=⟨21,184,.strct [(0,113),(18,26),(20,203)],.agg [.int .i64 0,.int .i64 0,.int .i64 0,.int .i64 0,.int .i64 0,.int .i64 0,.int .i64 0,.int .i64 0,.int .i64 0,.int .i64 0,.int .i64 0,.int .i64 0,.int .i64 0,.int .i64 0,.int .i64 0,.list .full 0 [],.int .i64 0,.int .i64 0,.int .i64 0,.int .i64 0,.nilfn],false,false,false⟩:=rfl
theorem Tryz.tyW210:Tryz.tyW 210=⟨5,40,.strct [(0,26),(2,3),(3,3),(4,3)],.agg [.int .i64 0,.int .i64 0,.int .i64 0,.int .i64 0,.int .i64 0],false,false,true⟩:=rfl
theorem Tryz.tyW213:Tryz.tyW 213=⟨1,16,.iface,.niliface,false,false,false⟩:=rfl
theorem Tryz.tyW215:Tryz.tyW 215=⟨1,8,.map 3 164,.nilmap,false,false,false⟩:=rfl
theorem Tryz.tyW225:Tryz.tyW 225=⟨1,8,.int .i64,.int .i64 0,false,false,false⟩:=rfl
theorem Tryz.tyW232:Tryz.tyW 232=⟨1,4,.int .u32,.int .u32 0,false,false,false⟩:=rfl
theorem Tryz.tyW234:Tryz.tyW 234=⟨1,8,.chan,.chan none,false,false,false⟩:=rfl
theorem Tryz.tyW236:Tryz.tyW 236=⟨3,40,.strct [(0,3),(1,22),(2,37)],.agg [.int .i64 0,.list .full 0 [],.int .i64 0],false,false,false⟩:=rfl
theorem Tryz.tyW239:Tryz.tyW 239=⟨1,8,.func,.nilfn,false,false,false⟩:=rfl
theorem Tryz.tyW242:Tryz.tyW 242=⟨1,24,.slice 213,.list .full 0 [],false,false,false⟩:=rfl
theorem Tryz.tyW243:Tryz.tyW 243=⟨1,8,.func,.nilfn,false,false,false⟩:=rfl
theorem Tryz.tyW244:Tryz.tyW 244=⟨1,8,.func,.nilfn,false,false,false⟩:=rfl
theorem Tryz.tyW245:Tryz.tyW 245=⟨1,8,.map 210 4,.nilmap,false,false,false⟩:=rfl
theorem Tryz.tyW247:Tryz.tyW 247=⟨1,8,.func,.nilfn,false,false,false⟩:=rfl
theorem Tryz.tyW252:Tryz.tyW 252=⟨7,56,.strct [(0,105),(6,3)],.agg [.int .i64 0,.int .i64 0,.int .i64 0,.int .i64 0,.int .i64 0,.int .i64 0,.int .i64 0],false,false,false⟩:=rfl
theorem Tryz.tyW254:Tryz.tyW 254=⟨6,48,.strct [(0,105)],.agg [.int .i64 0,.int .i64 0,.int .i64 0,.int .i64 0,.int .i64 0,.int .i64 0],false,false,false⟩:=rfl
theorem Tryz.tyW255:Tryz.tyW 255=⟨6,48,.strct [(0,105)],.agg [.int .i64 0,.int .i64 0,.int .i64 0,.int .i64 0,.int .i64 0,.int .i64 0],false,false,false⟩:=rfl
theorem Tryz.tyW262:Tryz.tyW 262=⟨1,8,.int .u64,.int .u64 0,false,false,false⟩:=rfl
theorem Tryz.tyW265:Tryz.tyW 265=⟨1,8,.ptr 3,.nilptr,false,false,false⟩:=rfl
theorem Tryz.tyW268:Tryz.tyW 268=⟨1,8,.func,.nilfn,false,false,false⟩:=rfl
theorem Tryz.tyW270:Tryz.tyW 270=⟨15,120,.strct [(0,109),(6,111)],.agg [.int .i64 0,.int .i64 0,.int .i64 0,.int .i64 0,.int .i64 0,.int .i64 0,.int .i64 0,.int .i64 0,.int .i64 0,.int .i64 0,.int .i64 0,.int .i64 0,.int .i64 0,.int .i64 0,.int .i64 0],false,false,false⟩:=rfl
theorem Tryz.tyW275:Tryz.tyW 275=⟨1,8,.ptr 262,.nilptr,false,false,false⟩:=rfl
theorem Tryz.tyW281:Tryz.tyW 281=⟨4,40,.strct [(0,17),(1,17),(2,17),(3,9)],.agg [.nilptr,.nilptr,.nilptr,.str ByteArray.empty],false,false,false⟩:=rfl
theorem Tryz.tyW282:Tryz.tyW 282=⟨0,0,.arr 0 16,.agg [],false,false,false⟩:=rfl
theorem Tryz.tyW284:Tryz.tyW 284=⟨0,0,.strct [(0,282)],.agg [],false,false,false⟩:=rfl
theorem Tryz.tyW285:Tryz.tyW 285=⟨1,1,.int .u8,.int .u8 0,false,false,false⟩:=rfl
theorem Tryz.tyW286:Tryz.tyW 286=⟨1,1,.int .u8,.int .u8 0,false,false,false⟩:=rfl
theorem Tryz.tyW287:Tryz.tyW 287=⟨1,8,.func,.nilfn,false,false,false⟩:=rfl
theorem Tryz.tyW288:Tryz.tyW 288=⟨1,8,.ptr 5,.nilptr,false,false,false⟩:=rfl
theorem Tryz.tyW289:Tryz.tyW 289=⟨1,4,.int .i32,.int .i32 0,false,false,false⟩:=rfl
theorem Tryz.tyW290:Tryz.tyW 290=⟨1,4,.int .i32,.int .i32 0,false,false,false⟩:=rfl
theorem Tryz.tyW292:Tryz.tyW 292=⟨11,48,.strct [(0,12),(1,12),(2,232),(3,285),(4,5),(5,5),(6,286),(7,287),(8,288),(9,289),(10,290)],.agg [.int .u64 0,.int .u64 0,.int .u32 0,.int .u8 0,.int .u8 0,.int .u8 0,.int .u8 0,.nilfn,.nilptr,.int .i32 0,.int .i32 0],false,false,false⟩:=rfl
theorem Tryz.eqsOKW:EqsOK Tryz.prog Tryz.tyW:=⟨fun t h=>Tryz.eqsOK.guard t (by rw[Tryz.tyW_eqn] at h;exact h),fun t h xs ys w h1 h2=>by
 rw[Tryz.tyW_eqn] at h;rw[Tryz.tyW_sz] at h1 h2;exact Tryz.eqsOK.eq t h xs ys w h1 h2,fun t h=>by
 rw[Tryz.tyW_keyn] at h;rw[Tryz.tyW_kd];exact Tryz.eqsOK.kkd t h,fun t h xs ys w h1 h2=>by
 rw[Tryz.tyW_keyn] at h;rw[Tryz.tyW_sz] at h1 h2;exact Tryz.eqsOK.keq t h xs ys w h1 h2,fun t h e xs w h1=>by
 rw[Tryz.tyW_keyn] at h;rw[Tryz.tyW_sz] at h1;exact Tryz.eqsOK.kck t h e xs w h1⟩
noncomputable def Tryz.Ew {S:MC Tryz.prog} (N:Nat) (ord:Nat→List Nat×List (Nat×List Nat)) (fs:FuncId→List AV→Option AV):Env:={P:=Tryz.prog,S:=S,ty:=Tryz.tyW,N:=N,mt:=Tryz.mt,ord:=ord,fs:=fs}
theorem Tryz.EwN{S:MC Tryz.prog}{N:Nat}{ord:Nat→List Nat×List (Nat×List Nat)}{fs:FuncId→List AV→Option AV}:(Tryz.Ew (S:=S) N ord fs).N=N:=rfl
theorem Tryz.Ewmt{S:MC Tryz.prog}{N:Nat}{ord:Nat→List Nat×List (Nat×List Nat)}{fs:FuncId→List AV→Option AV}:(Tryz.Ew (S:=S) N ord fs).mt=Tryz.mt:=rfl
theorem Tryz.EwP{S:MC Tryz.prog}{N:Nat}{ord:Nat→List Nat×List (Nat×List Nat)}{fs:FuncId→List AV→Option AV}:(Tryz.Ew (S:=S) N ord fs).P=Tryz.prog:=rfl
theorem Tryz.Ewty{S:MC Tryz.prog}{N:Nat}{ord:Nat→List Nat×List (Nat×List Nat)}{fs:FuncId→List AV→Option AV}:(Tryz.Ew (S:=S) N ord fs).ty=Tryz.tyW:=rfl
theorem Tryz.Eword{S:MC Tryz.prog}{N:Nat}{ord:Nat→List Nat×List (Nat×List Nat)}{fs:FuncId→List AV→Option AV}:(Tryz.Ew (S:=S) N ord fs).ord=ord:=rfl
theorem Tryz.Ewfs{S:MC Tryz.prog}{N:Nat}{ord:Nat→List Nat×List (Nat×List Nat)}{fs:FuncId→List AV→Option AV}:(Tryz.Ew (S:=S) N ord fs).fs=fs:=rfl
set_option maxRecDepth 200000 in
theorem Tryz.envOKW{S:MC Tryz.prog}(N:Nat)(ord:Nat→List Nat×List (Nat×List Nat))(fs:FuncId→List AV→Option AV)(h:∀f xs v,fs f xs=some v→PureV S f xs v):EnvOK (Tryz.Ew (S:=S) N ord fs):=⟨Tryz.tysOKW,Tryz.eqsOKW,Tryz.mtOK,Tryz.mtOKT,by kernel_rfl,h⟩
attribute [go_sem] Tryz.tyW1 Tryz.tyW2 Tryz.tyW3 Tryz.tyW4 Tryz.tyW5 Tryz.tyW6 Tryz.tyW8 Tryz.tyW9 Tryz.tyW10 Tryz.tyW11 Tryz.tyW12 Tryz.tyW14
attribute [go_sem] Tryz.tyW15 Tryz.tyW16 Tryz.tyW17 Tryz.tyW19 Tryz.tyW22 Tryz.tyW23 Tryz.tyW26 Tryz.tyW27 Tryz.tyW28 Tryz.tyW30 Tryz.tyW32 Tryz.tyW36
attribute [go_sem] Tryz.tyW37 Tryz.tyW46 Tryz.tyW47 Tryz.tyW49 Tryz.tyW51 Tryz.tyW54 Tryz.tyW64 Tryz.tyW67 Tryz.tyW105 Tryz.tyW109 Tryz.tyW111 Tryz.tyW113
attribute [go_sem] Tryz.tyW114 Tryz.tyW116 Tryz.tyW117 Tryz.tyW119 Tryz.tyW120 Tryz.tyW127 Tryz.tyW144 Tryz.tyW146 Tryz.tyW149 Tryz.tyW164 Tryz.tyW169 Tryz.tyW170
attribute [go_sem] Tryz.tyW179 Tryz.tyW181 Tryz.tyW184 Tryz.tyW189 Tryz.tyW190 Tryz.tyW192 Tryz.tyW195 Tryz.tyW197 Tryz.tyW198 Tryz.tyW202 Tryz.tyW203 Tryz.tyW205
attribute [go_sem] Tryz.tyW210 Tryz.tyW213 Tryz.tyW215 Tryz.tyW225 Tryz.tyW232 Tryz.tyW234 Tryz.tyW236 Tryz.tyW239 Tryz.tyW242 Tryz.tyW243 Tryz.tyW244 Tryz.tyW245
attribute [go_sem] Tryz.tyW247 Tryz.tyW252 Tryz.tyW254 Tryz.tyW255 Tryz.tyW262 Tryz.tyW265 Tryz.tyW268 Tryz.tyW270 Tryz.tyW275 Tryz.tyW281 Tryz.tyW282 Tryz.tyW284
attribute [go_sem] Tryz.tyW285 Tryz.tyW286 Tryz.tyW287 Tryz.tyW288 Tryz.tyW289 Tryz.tyW290 Tryz.tyW292 Tryz.EwN Tryz.Ewmt Tryz.EwP Tryz.Ewty Tryz.Eword
attribute [go_sem] Tryz.Ewfs
theorem Tryz.EwS_{S:MC Tryz.prog}{N:Nat}{ord:Nat→List Nat×List (Nat×List Nat)}{fs:FuncId→List AV→Option AV}:(Tryz.Ew (S:=S) N ord fs).S=S:=rfl
attribute [go_sem] Tryz.EwS_
end Go.Proofs
namespace Go.Proofs
open Go Go.Mu Go.Ins
theorem hclSg_p(l:List Sg)(hl:l.length≤4294967296):PureV SBes 118 [.list .no 2 (l.map Sg.av)] (.list .no 2 (l.map Sg.av)):=by
 refine PvE (Tryz.envOK (S:=SBes) 8 (fun _=>([],[])) fs0 fs0_ok) (.map fun y _=>y.plain) Tryz.kp118 Tryz.func118 rfl ?_
 intro σ
 simp -implicitDefEqProofs (maxSteps:=9^9) (disch:=omega) only[go_sem,simprocAttr]
 intro h
 simp at h;subst h;simp
theorem hclRng_p(l:List Rng)(hl:l.length≤4294967296):PureV SBes 120 [.list .no 2 (l.map Rng.av)] (.list .no 2 (l.map Rng.av)):=by
 refine PvE (Tryz.envOK (S:=SBes) 8 (fun _=>([],[])) fs0 fs0_ok) (rngs_plain _) Tryz.kp120 Tryz.func120 rfl ?_
 intro σ
 simp -implicitDefEqProofs (maxSteps:=9^9) (disch:=omega) only[go_sem,simprocAttr]
 intro h
 simp at h;subst h;simp
theorem hclRd_p(l:List Rd)(hl:l.length≤4294967296):PureV SBes 121 [.list .no 6 (l.map Rd.av)] (.list .no 6 (l.map Rd.av)):=by
 refine PvE (Tryz.envOK (S:=SBes) 8 (fun _=>([],[])) fs0 fs0_ok) (.map fun y _=>Rd.plain y) Tryz.kp121 Tryz.func121 rfl ?_
 intro σ
 simp -implicitDefEqProofs (maxSteps:=9^9) (disch:=omega) only[go_sem,simprocAttr]
 intro h
 simp at h;subst h;simp
theorem hclTn_c(l:List Tn)(hl:l.length≤1000000)(σ:List AObj)(Q:AV→List AObj→Prop)(h:Q (.vec σ.length l.length) (σ++[.vec 6 (l.map Tn.av)]))(h0:l=[]→Q (.list .full 0 []) σ) :
  ACalls SBes 119 [.list .no 6 (l.map Tn.av)] σ Q:=by
 refine ACalls.of_ev (E:=Tryz.Ew (S:=SBes) 8 (fun _=>([],[])) fs0) (Tryz.envOKW (S:=SBes) 8 (fun _=>([],[])) fs0 fs0_ok) Tryz.kp119 Tryz.func119 rfl (by kernel_rfl) (by simp[Tryz.Ew]) (Callable.of Tryz.func119 (by kernel_rfl) (by kernel_rfl)) (by kernel_rfl) ?_
 simp -implicitDefEqProofs (maxSteps:=9^9) (disch:=omega) only[go_sem,simprocAttr]
 exact⟨h,fun e=>h0 (by simpa using e)⟩
theorem _root_.Go.Mu.ACalls.freezeB{P:Program}{S:MC P}{f:FuncId}{σ:List AObj}{Q:AV→List AObj→Prop}{rest:List AV}(q k:Nat){r n sz:Nat}{xs cs:List AV}(hq:hget σ q=some (.cells cs))(hk:cs[k]? = some (.vec r n))(hg:hget σ r=some (.vec sz xs))(hn:xs.length=n)
  (h:ACalls S f (.agg (cs.set k (.list .no sz xs))::rest) (hset (hset σ r .dead) q (.cells (cs.set k (.list .no sz xs)))) Q):ACalls S f (.agg cs::rest) σ Q:=by
 refine⟨h.1,fun M hM K w V cargs kd fcs hR hO hV=>?_⟩
 obtain⟨K',r1,r2,hv⟩:=hR.freezeK q k hq hk hg hn
 have hlen:(hset (hset σ r AObj.dead) q (AObj.cells (cs.set k (.list .no sz xs)))).length=σ.length:=by simp[hset]
 obtain⟨hkl,hke⟩:=List.getElem?_eq_some_iff.1 hk
 refine M.bind (h.2 M hM K' w V cargs kd fcs r1 (hO.mind hR r1 r2) ?_) fun g' w' V' ⟨fr,v,σ',K2,h1,h2,h3,h4,h5,h6,h7,h8⟩=>M.ret ⟨fr,v,σ',K2,h1,h2,h3,h4,h5,h6,h7,(StepV.of_mind r2).trans h8⟩
 rw[hlen]
 refine⟨hV.1,fun i h1 h2=>?_⟩
 cases i with
 | succ i=>
  have:=hV.2 (i+1) (by simpa using h1) h2
  simp only[List.getElem_cons_succ] at this⊢
  exact this.mono r2.ext (Nat.le_refl _)
 | zero=>
  have hv0:=hV.2 0 (by simp) h2
  simp only[List.getElem_cons_zero] at hv0⊢
  generalize cargs.toList[0]=c0 at hv0
  cases hv0 with
  | agg _ cs' hl h1' hh=>
   refine .agg _ cs' (by rw[List.length_set];exact hl) h1' fun i h5 h6=>?_
   have h7:i<cs.length:=by rw[List.length_set] at h5;exact h5
   by_cases e:k=i
   ·subst e
    rw[List.getElem_set_self]
    have:=hh k hkl h6
    rw[hke] at this
    exact hv _ this
   ·rw[List.getElem_set_ne e]
    exact(hh i h7 h6).mono r2.ext (Nat.le_refl _)
theorem hchk_p(x:Tn)(hands:Int)(hh:0≤hands∧hands≤1000000)(h1:x.ear.tones.length≤1000000)(h2:x.ear.rds.length≤1000000):PureV SBes 117 [x.av,.int .i64 hands] (.tup [ints1 (chkE x hands).1,.int .i64 (chkE x hands).2]):=by
 intro σ Q hq
 refine(ACalls.aside (X:=fun v=>v= .tup [ints1 (chkE x hands).1,.int .i64 (chkE x hands).2]) (by simp only[List.mem_cons,List.not_mem_nil,or_false,forall_eq_or_imp,forall_eq];exact⟨.agg x.plains,.int⟩) (chkE_c x hands hh h1 h2 fun σ'=>⟨.tup (by simp only[List.mem_cons,List.not_mem_nil,or_false,forall_eq_or_imp,forall_eq];exact⟨(ints1_good _).2,.int⟩),rfl⟩)).mono fun v σ' ⟨e1,e2⟩=>?_
 subst e1 e2
 exact hq
def Ros.snoc(r:Ros)(x:Tn):Ros:={r with ents:=r.ents++[x]}
def ros0:AV:= .agg [.int .i64 0,.int .i64 0,.int .i64 0,.int .i64 0,.list .full 0 [],.list .full 0 []]
theorem with_c(r:Ros)(x:Tn)(hf:r.Fit)(hhd:headE r=0)(hen:entsE r=0)(hl:r.ents.length≤4)(hx:(chkE x r.hands).2=0)(hx1:x.ear.tones.length≤1000000)(hx2:x.ear.rds.length≤1000000){σ:List AObj}{Q:AV→List AObj→Prop}
  (hE:knownE (r.snoc x) []≠0→∀j,Q (.tup [ros0,.int .i64 (knownE (r.snoc x) [])]) (σ++j))
  (hO:knownE (r.snoc x) []=0→∀j,Q (.tup [(r.snoc x).av,.int .i64 0]) (σ++j)) :
  ACalls SBes 62 [r.av,x.av] σ Q:=by
 refine ACalls.of_ev (E:=Tryz.Ew (S:=SBes) 89 Tryz.ord62 fs0) (Tryz.envOKW (S:=SBes) 89 Tryz.ord62 fs0 fs0_ok) Tryz.kp62 Tryz.func62 rfl (by kernel_rfl) (by simp[Tryz.Ew]) (Callable.of Tryz.func62 (by kernel_rfl) (by kernel_rfl)) (by kernel_rfl) ?_
 have hro:rosE r=0:=by unfold rosE;rw[if_neg (fun c=>c hhd)];exact hen
 have hgood:=Ros.good_of hhd hen
 have hh:=hgood.hands
 simp only[Ros.av,Tn.av,Tn.cells]
 simp -implicitDefEqProofs (maxSteps:=9^9) (disch:=omega) only[go_sem,simprocAttr]
 refine hCheck_p r hf _ _ ?_
 have hl5:(((r.ents.map Tn.av).length:Int)=5)=False:=by simp;omega
 rw[hro]
 simp -implicitDefEqProofs (maxSteps:=9^9) (disch:=omega) only[go_sem,simprocAttr,hl5]
 refine hchk_p x r.hands (by omega) hx1 hx2 _ _ ?_
 rw[hx]
 simp only[ints1]
 simp -implicitDefEqProofs (maxSteps:=9^9) (disch:=omega) only[go_sem,simprocAttr,hl5]
 refine hclSg_p r.sets (by have:=hf.sets;omega) _ _ ?_
 simp -implicitDefEqProofs (maxSteps:=9^9) (disch:=omega) only[go_sem,simprocAttr,hl5]
 have hLn:(r.ents++[x]).length=r.ents.length+1:=by simp
 have hLm:(r.ents++[x]).map Tn.av=r.ents.map Tn.av++[.agg [.int .i64 x.day,.int .i64 x.hand,.int .i64 x.due,.int .i64 x.ear.slack,.list .no 2 (x.ear.tones.map Rng.av),.list .no 6 (x.ear.rds.map Rd.av)]]:=by rw[List.map_append];rfl
 have hLe:∀y∈r.ents++[x],y.ear.tones.length≤1000000∧y.ear.rds.length≤1000000:=fun y hy=>by
  rcases List.mem_append.1 hy with hy | hy
  ·exact hf.ear y hy
  ·simp at hy;subst hy;exact⟨hx1,hx2⟩
 have hsn:(r.snoc x).av= .agg [.int .i64 r.hands,.int .i64 r.skill,.int .i64 r.mn,.int .i64 r.mx,.list .no 2 (r.sets.map Sg.av),.list .no 6 ((r.ents++[x]).map Tn.av)]:=rfl
 have hfs:(r.snoc x).Fit:=⟨hf.sets,by show(r.ents++[x]).length≤1000000;rw[hLn];omega,hLe⟩
 obtain⟨L,hL⟩:∃L,L=r.ents++[x]:=⟨_,rfl⟩
 rw[← hL] at hLn hLm hLe hsn
 refine hclTn_c r.ents (by omega) _ _ ?_ (fun e=>?_)
 ·simp -implicitDefEqProofs (maxSteps:=9^9) (disch:=omega) only[go_sem,simprocAttr,hl5,Tn.cells]
  rw[← hLm,← hLn]
  refine ARun.forS (Tryz.envOKW (S:=SBes) 89 Tryz.ord62 fs0 fs0_ok) L.length (fun _=>True) (fun i=>[(48,.int .i64 i)]) (fun _ _=>σ++[.cells [.int .i64 r.hands,.int .i64 r.skill,.int .i64 r.mn,.int .i64 r.mx,.list .no 2 (r.sets.map Sg.av),.list .no 6 (r.ents.map Tn.av)],.cells [.int .i64 x.day,.int .i64 x.hand,.int .i64 x.due,.int .i64 x.ear.slack,.list .no 2 (x.ear.tones.map Rng.av),.list .no 6 (x.ear.rds.map Rd.av)],.cells [.int .i64 0,.int .i64 0,.int .i64 0,.int .i64 0,.list .full 0 [],.list .full 0 []],.vec 6 (L.map Tn.av)]) [] (by kernel_rfl) (by first | rfl | simp) (by simp[upd,ins,subF,lookA]) trivial ?_ ?_
  ·intro i j hi _ ih
   have hgx:(L.map Tn.av)[i]? = some (Tn.av L[i]):=by simp[List.getElem?_eq_getElem hi]
   have hte:=hLe _ (List.getElem_mem hi)
   have hset:(L.map Tn.av).set i (Tn.av L[i])=L.map Tn.av:=List.ext_getElem (by simp) fun k h1 h2=>by
    rw[List.getElem_set];split
    ·rename_i e;subst e;simp
    ·rfl
   generalize L[i]=t at *
   have hav:t.av= .agg [.int .i64 t.day,.int .i64 t.hand,.int .i64 t.due,.int .i64 t.ear.slack,.list .no 2 (t.ear.tones.map Rng.av),.list .no 6 (t.ear.rds.map Rd.av)]:=rfl
   rw[hav] at hgx hset
   simp -implicitDefEqProofs (maxSteps:=9^9) (disch:=omega) only[go_sem,simprocAttr,hgx]
   refine hclRng_p t.ear.tones (by omega) _ _ ?_
   simp -implicitDefEqProofs (maxSteps:=9^9) (disch:=omega) only[go_sem,simprocAttr,hgx]
   refine hclRd_p t.ear.rds (by omega) _ _ ?_
   simp -implicitDefEqProofs (maxSteps:=9^9) (disch:=omega) only[go_sem,simprocAttr,hgx,hset]
   exact(ih trivial []).castS rfl (by simp[upd,ins,subF,lookA])
  ·intro j _
   simp -implicitDefEqProofs (maxSteps:=9^9) (disch:=omega) only[go_sem,simprocAttr]
   refine ACalls.freezeB σ.length 5 (r:=σ.length+3) (n:=L.length) (sz:=6) (xs:=L.map Tn.av) (by rw[hget_at0];rfl) rfl (by rw[hget_at];rfl) (by simp) ?_
   rw[hset_at,hset_at0]
   simp only[List.set_cons_succ,List.set_cons_zero]
   rw[← hsn]
   refine ACalls.weaken (l':=[(r.snoc x).av,.list .no 1 (([]:List Int).map (.int .i64))]) ⟨⟨rfl,rfl,rfl,rfl,⟨rfl,.inl rfl,.inl rfl⟩,⟨rfl,.inl rfl,.inl rfl⟩,trivial⟩,⟨rfl,.inr rfl,.inl rfl⟩,trivial⟩ ?_
   refine known_c (r.snoc x) hfs [] (by simp) (fun hK j=>?_) (fun hK hg a j ha hm=>?_)
   ·have hK':(knownE (r.snoc x) []=0)=False:=eq_false hK
    have hE':=hE hK
    simp only[rosZ]
    simp -implicitDefEqProofs (maxSteps:=9^9) (disch:=omega) only[go_sem,simprocAttr,hK']
    exact hE' _
   ·have hO':=hO hK
    simp only[Ros.wav]
    simp -implicitDefEqProofs (maxSteps:=9^9) (disch:=omega) only[go_sem,simprocAttr]
    rw[hsn] at hO'
    exact hO' _
 ·have hl0:r.ents.length=0:=by rw[e];rfl
  rw[e] at hLm
  simp only[List.map_nil,List.nil_append] at hLm
  simp -implicitDefEqProofs (maxSteps:=9^9) (disch:=omega) only[go_sem,simprocAttr,hl5,Tn.cells]
  rw[hl0] at hLn
  have hv1:AV.vec (σ.length+3) 1=AV.vec (σ.length+3) L.length:=by rw[hLn]
  have hv2:AV.int IntKind.i64 1=AV.int IntKind.i64 (L.length:Int):=by rw[hLn];rfl
  rw[hv1,hv2]
  rw[← hLm]
  refine ARun.forS (Tryz.envOKW (S:=SBes) 89 Tryz.ord62 fs0 fs0_ok) L.length (fun _=>True) (fun i=>[(48,.int .i64 i)]) (fun _ _=>σ++[.cells [.int .i64 r.hands,.int .i64 r.skill,.int .i64 r.mn,.int .i64 r.mx,.list .no 2 (r.sets.map Sg.av),.list .no 6 (r.ents.map Tn.av)],.cells [.int .i64 x.day,.int .i64 x.hand,.int .i64 x.due,.int .i64 x.ear.slack,.list .no 2 (x.ear.tones.map Rng.av),.list .no 6 (x.ear.rds.map Rd.av)],.cells [.int .i64 0,.int .i64 0,.int .i64 0,.int .i64 0,.list .full 0 [],.list .full 0 []],.vec 6 (L.map Tn.av)]) [] (by kernel_rfl) (by first | rfl | simp) (by simp[upd,ins,subF,lookA]) trivial ?_ ?_
  ·intro i j hi _ ih
   have hgx:(L.map Tn.av)[i]? = some (Tn.av L[i]):=by simp[List.getElem?_eq_getElem hi]
   have hte:=hLe _ (List.getElem_mem hi)
   have hset:(L.map Tn.av).set i (Tn.av L[i])=L.map Tn.av:=List.ext_getElem (by simp) fun k h1 h2=>by
    rw[List.getElem_set];split
    ·rename_i e;subst e;simp
    ·rfl
   generalize L[i]=t at *
   have hav:t.av= .agg [.int .i64 t.day,.int .i64 t.hand,.int .i64 t.due,.int .i64 t.ear.slack,.list .no 2 (t.ear.tones.map Rng.av),.list .no 6 (t.ear.rds.map Rd.av)]:=rfl
   rw[hav] at hgx hset
   simp -implicitDefEqProofs (maxSteps:=9^9) (disch:=omega) only[go_sem,simprocAttr,hgx]
   refine hclRng_p t.ear.tones (by omega) _ _ ?_
   simp -implicitDefEqProofs (maxSteps:=9^9) (disch:=omega) only[go_sem,simprocAttr,hgx]
   refine hclRd_p t.ear.rds (by omega) _ _ ?_
   simp -implicitDefEqProofs (maxSteps:=9^9) (disch:=omega) only[go_sem,simprocAttr,hgx,hset]
   exact(ih trivial []).castS rfl (by simp[upd,ins,subF,lookA])
  ·intro j _
   simp -implicitDefEqProofs (maxSteps:=9^9) (disch:=omega) only[go_sem,simprocAttr]
   refine ACalls.freezeB σ.length 5 (r:=σ.length+3) (n:=L.length) (sz:=6) (xs:=L.map Tn.av) (by rw[hget_at0];rfl) rfl (by rw[hget_at];rfl) (by simp) ?_
   rw[hset_at,hset_at0]
   simp only[List.set_cons_succ,List.set_cons_zero]
   rw[← hsn]
   refine ACalls.weaken (l':=[(r.snoc x).av,.list .no 1 (([]:List Int).map (.int .i64))]) ⟨⟨rfl,rfl,rfl,rfl,⟨rfl,.inl rfl,.inl rfl⟩,⟨rfl,.inl rfl,.inl rfl⟩,trivial⟩,⟨rfl,.inr rfl,.inl rfl⟩,trivial⟩ ?_
   refine known_c (r.snoc x) hfs [] (by simp) (fun hK j=>?_) (fun hK hg a j ha hm=>?_)
   ·have hK':(knownE (r.snoc x) []=0)=False:=eq_false hK
    have hE':=hE hK
    simp only[rosZ]
    simp -implicitDefEqProofs (maxSteps:=9^9) (disch:=omega) only[go_sem,simprocAttr,hK']
    exact hE' _
   ·have hO':=hO hK
    simp only[Ros.wav]
    simp -implicitDefEqProofs (maxSteps:=9^9) (disch:=omega) only[go_sem,simprocAttr]
    rw[hsn] at hO'
    exact hO' _
theorem idx0(a:AV)(l:List AV):idx (a::l) 0=some a:=rfl
end Go.Proofs
namespace Go.Proofs
open Go Go.Mu Go.Ins
variable {S:MC Tryz.prog}
end Go.Proofs
namespace Go.Proofs
open Go Go.Mu Go.Ins
theorem spanL_spec{num:List Int→Int}{l:List (List Int)}(hl:l≠[]):(∀t∈l,(spanL num l).lo≤num t∧num t≤(spanL num l).hi)∧(∃t∈l,num t=(spanL num l).lo)∧(∃t∈l,num t=(spanL num l).hi):=by
 have key:∀(l p:List (List Int)) (y:Rng),((∀t∈p,y.lo≤num t∧num t≤y.hi)∧(∃t∈p,num t=y.lo)∧(∃t∈p,num t=y.hi))→
   ((∀t∈p++l,(l.foldl (spanS num) y).lo≤num t∧num t≤(l.foldl (spanS num) y).hi)∧(∃t∈p++l,num t=(l.foldl (spanS num) y).lo)∧(∃t∈p++l,num t=(l.foldl (spanS num) y).hi)):=by
  intro l
  induction l with
  | nil=>intro p y h;simpa using h
  | cons t l ih=>
   intro p y ⟨h1,⟨a,ha,ha2⟩,⟨b,hb,hb2⟩⟩
   have e:p++t::l=(p++[t])++l:=by simp
   rw[e]
   refine ih (p++[t]) (spanS num y t) ⟨fun u hu=>?_,?_,?_⟩
   ·rcases List.mem_append.1 hu with hu | hu
    ·have:=h1 u hu
     simp only[spanS,mn,mx];split<;> split<;> omega
    ·simp at hu;subst hu
     simp only[spanS,mn,mx];split<;> split<;> omega
   ·simp only[spanS,mn]
    split
    ·exact⟨t,by simp,rfl⟩
    ·exact⟨a,by simp[ha],ha2⟩
   ·simp only[spanS,mx]
    split
    ·exact⟨t,by simp,rfl⟩
    ·exact⟨b,by simp[hb],hb2⟩
 obtain⟨t,l,rfl⟩:∃t l',l=t::l':=by cases l with | nil=>exact absurd rfl hl | cons a b=>exact⟨a,b,rfl⟩
 have:=key l [t] (spanS num ⟨num t,num t⟩ t) ⟨fun u hu=>by simp at hu;subst hu;simp[spanS,mn,mx],⟨t,by simp,by simp[spanS,mn]⟩,⟨t,by simp,by simp[spanS,mx]⟩⟩
 simpa[spanL] using this
def oneB(sl:Int)(rds:List Rd)(v:Int):Bool:=rds.all fun r=>isR r sl [v,0,0]
def oneV(sl lo hi:Int)(rds:List Rd):List Int:=((List.range (hi-lo+1).toNat).filter fun(k:Nat)=>oneB sl rds (lo+k)).map fun(k:Nat)=>lo+(k:Int)
theorem flat_if{α:Type}(P:Nat→Bool)(f:Nat→α):∀l:List Nat,(l.flatMap fun k=>if P k then[f k] else[])=(l.filter P).map f
 | []=>rfl
 | k::l=>by
  rw[List.flatMap_cons,flat_if P f l,List.filter_cons]
  by_cases h:P k=true
  ·rw[if_pos h,if_pos h];rfl
  ·rw[if_neg h,if_neg h];rfl
theorem truths_one(sl lo hi:Int)(rds:List Rd):truthsL ⟨sl,[⟨lo,hi⟩],rds⟩=(oneV sl lo hi rds).map fun v=>[v,0,0]:=by
 rw[truthsL_one]
 unfold oneV
 rw[List.map_map]
 exact flat_if (fun(k:Nat)=>oneB sl rds (lo+k)) (fun(k:Nat)=>[lo+(k:Int),0,0]) _
theorem oneV_mem{sl lo hi:Int}{rds:List Rd}{v:Int}:v∈oneV sl lo hi rds↔(lo≤v∧v≤hi)∧oneB sl rds v=true:=by
 unfold oneV
 simp only[List.mem_map,List.mem_filter,List.mem_range]
 constructor
 ·rintro⟨k,⟨h1,h2⟩,rfl⟩;exact⟨by omega,h2⟩
 ·rintro⟨h1,h2⟩
  have e:lo+((v-lo).toNat:Int)=v:=by omega
  exact⟨(v-lo).toNat,⟨by omega,by rw[e];exact h2⟩,e⟩
theorem oneV_asc(sl lo hi:Int)(rds:List Rd):(oneV sl lo hi rds).Pairwise (· < ·):=by
 unfold oneV
 rw[List.pairwise_map]
 exact(List.pairwise_lt_range.filter _).imp fun h=>by omega
theorem oneV_firsts(sl lo hi:Int)(rds:List Rd):firstsL ((truthsL ⟨sl,[⟨lo,hi⟩],rds⟩).map fun t=>tg t 0)=oneV sl lo hi rds:=by
 rw[truths_one,List.map_map]
 have e:((fun t=>tg t 0)∘fun(v:Int)=>[v,0,0])=id:=by funext v;rfl
 rw[e,List.map_id]
 have:=firsts_self (oneV sl lo hi rds) [] (by rw[List.nil_append];exact(oneV_asc sl lo hi rds).imp fun h=>by omega)
 simpa[firstsL] using this
theorem oneV_nil{sl lo hi:Int}{rds:List Rd}(h:oneV sl lo hi rds≠[]):truthsL ⟨sl,[⟨lo,hi⟩],rds⟩≠[]:=by
 rw[truths_one];simpa using h
theorem chkE_oneV{x:Tn}{h sl lo hi:Int}{rds:List Rd}(h1:0≤x.day∧x.day≤60)(h2: -1≤x.hand∧x.hand≤h-1)(h3:1≤x.due∧x.due≤100000)(he:x.ear=⟨sl,[⟨lo,hi⟩],rds⟩)(hk:ck x.ear=0)(hn:oneV sl lo hi rds≠[]) :
  chkE x h=((oneV sl lo hi rds).map (· - x.due),0):=by
 rw[chkE_one h1 h2 h3 hk (by rw[he];rfl) (by rw[he];exact oneV_nil hn),he,oneV_firsts]
def devR(l:List Int):Rng:=⟨tg l 0,tg l ((l.length:Int)-1)⟩
theorem asc_tg{l:List Int}(h:l.Pairwise (· < ·)){v:Int}(hv:v∈l):tg l 0≤v∧v≤tg l ((l.length:Int)-1):=by
 obtain⟨i,hi,rfl⟩:=List.mem_iff_getElem.1 hv
 have e0:tg l 0=l[0]'(by omega):=by unfold tg;rw[show Int.toNat 0=0 from rfl,List.getD_eq_getElem?_getD,List.getElem?_eq_getElem (by omega)];rfl
 have e1:tg l ((l.length:Int)-1)=l[l.length-1]'(by omega):=by
  unfold tg;rw[show((l.length:Int)-1).toNat=l.length-1 by omega,List.getD_eq_getElem?_getD,List.getElem?_eq_getElem (by omega)];rfl
 rw[e0,e1]
 have hp:=List.pairwise_iff_getElem.1 h
 constructor
 ·by_cases c:i=0
  ·subst c;exact Int.le_refl _
  ·exact Int.le_of_lt (hp 0 i (by omega) hi (by omega))
 ·by_cases c:i=l.length-1
  ·subst c;exact Int.le_refl _
  ·exact Int.le_of_lt (hp i (l.length-1) hi (by omega) (by omega))
theorem tg0_mem{l:List Int}(h:l≠[]):tg l 0∈l:=by
 cases l with
 | nil=>exact absurd rfl h
 | cons a l=>exact List.mem_cons_self
theorem tgl_mem{l:List Int}(h:l≠[]):tg l ((l.length:Int)-1)∈l:=by
 have hl:0<l.length:=List.length_pos_iff.2 h
 unfold tg
 rw[show((l.length:Int)-1).toNat=l.length-1 by omega,List.getD_eq_getElem?_getD,List.getElem?_eq_getElem (by omega)]
 exact List.getElem_mem _
theorem tg_sub{l:List Int}{d i:Int}(h:i.toNat<l.length):tg (l.map (· - d)) i=tg l i-d:=by
 unfold tg
 simp[List.getD_eq_getElem?_getD,List.getElem?_eq_getElem h]
theorem devR_sub{l:List Int}{d:Int}(h:l≠[]):devR (l.map (· - d))=⟨tg l 0-d,tg l ((l.length:Int)-1)-d⟩:=by
 have hl:0<l.length:=List.length_pos_iff.2 h
 unfold devR
 rw[List.length_map,tg_sub (by simpa using hl),tg_sub (by omega)]
theorem span_oneV{sl lo hi:Int}{rds:List Rd}(h:oneV sl lo hi rds≠[]):spanL (fun t=>tg t ((0:Nat):Int)) (truthsL ⟨sl,[⟨lo,hi⟩],rds⟩)=devR (oneV sl lo hi rds):=by
 rw[truths_one]
 have hA:=oneV_asc sl lo hi rds
 generalize oneV sl lo hi rds=V at h hA
 obtain⟨h1,⟨a,ha,ha2⟩,⟨b,hb,hb2⟩⟩:=spanL_spec (num:=fun t=>tg t ((0:Nat):Int)) (l:=V.map fun v=>[v,0,0]) (by simpa using h)
 obtain⟨v,hv,rfl⟩:=List.mem_map.1 ha
 obtain⟨w,hw,rfl⟩:=List.mem_map.1 hb
 have g1:=h1 _ (List.mem_map.2 ⟨_,tg0_mem h,rfl⟩)
 have g2:=h1 _ (List.mem_map.2 ⟨_,tgl_mem h,rfl⟩)
 have k1:=asc_tg hA hv
 have k2:=asc_tg hA hw
 have t0:∀v:Int,tg [v,0,0] ((0:Nat):Int)=v:=fun v=>rfl
 simp only[t0] at ha2 hb2 g1 g2
 generalize spanL _ _=sp at *
 obtain⟨s1,s2⟩:=sp
 simp only at *
 unfold devR
 rw[show s1=tg V 0 by omega,show s2=tg V ((V.length:Int)-1) by omega]
theorem tones_one{sl lo hi:Int}{rds:List Rd}(hk:ck ⟨sl,[⟨lo,hi⟩],rds⟩= 0)(h:oneV sl lo hi rds≠[]):tonesL ⟨sl,[⟨lo,hi⟩],rds⟩=([devR (oneV sl lo hi rds)],0):=by
 have e:knownL ⟨sl,[⟨lo,hi⟩],rds⟩=(truthsL ⟨sl,[⟨lo,hi⟩],rds⟩,0):=by
  unfold knownL;rw[if_neg (by simp[hk]),if_neg (oneV_nil h)]
 unfold tonesL
 rw[e]
 show(([spanL (fun t=>tg t ((0:Nat):Int)) (truthsL ⟨sl,[⟨lo,hi⟩],rds⟩)]:List Rng),(0:Int))=_
 rw[span_oneV h]
theorem oneB_conv{sl:Int}{rds:List Rd}(hr:∀r∈rds,ckR r 1=0){a b y:Int}(ha:oneB sl rds a=true)(hb:oneB sl rds b=true)(h:a≤y∧y≤b):oneB sl rds y=true:=by
 unfold oneB at *
 rw[List.all_eq_true] at *
 intro r hm
 have h0:=hr r hm
 have h1:=ha r hm
 have h2:=hb r hm
 have hkk:r.kind=1∧r.a=0∧r.b=0∧0≤r.sec:=by
  unfold ckR at h0
  repeat' split at h0
  all_goals first | omega | cases h0
 obtain⟨k1,k2,k3,k4⟩:=hkk
 unfold isR at h1 h2⊢
 rw[if_pos k1] at h1 h2⊢
 rw[k2] at h1 h2⊢
 have t0:∀v:Int,tg [v,0,0] 0=v:=fun v=>rfl
 simp only[t0,decide_eq_true_eq] at h1 h2⊢
 have m1:a*r.sec≤y*r.sec:=Int.mul_le_mul_of_nonneg_right h.1 k4
 have m2:y*r.sec≤b*r.sec:=Int.mul_le_mul_of_nonneg_right h.2 k4
 omega
theorem ck_rds{sl lo hi:Int}{rds:List Rd}(hk:ck ⟨sl,[⟨lo,hi⟩],rds⟩= 0):∀r∈rds,ckR r 1=0:=by
 refine firstE_all (f:=fun r=>ckR r (1:Nat)) ?_
 simp only[ck,List.length_cons,List.length_nil] at hk
 grind
theorem oneV_conv{sl lo hi:Int}{rds:List Rd}(hk:ck ⟨sl,[⟨lo,hi⟩],rds⟩= 0){y:Int}(hn:oneV sl lo hi rds≠[])(h:(devR (oneV sl lo hi rds)).lo≤y∧y≤(devR (oneV sl lo hi rds)).hi):y∈oneV sl lo hi rds:=by
 have m1:=oneV_mem.1 (tg0_mem hn)
 have m2:=oneV_mem.1 (tgl_mem hn)
 unfold devR at h
 exact oneV_mem.2 ⟨by simp only at h;omega,oneB_conv (ck_rds hk) m1.2 m2.2 h⟩
theorem Ros.Good.one{r:Ros}(h:r.Good){x:Tn}(hx:x∈r.ents):∃sl lo hi rds,x.ear=⟨sl,[⟨lo,hi⟩],rds⟩∧ck ⟨sl,[⟨lo,hi⟩],rds⟩= 0∧oneV sl lo hi rds≠[]∧chkE x r.hands=((oneV sl lo hi rds).map (· - x.due),0):=by
 obtain⟨h1,h2,h3,h4,h5,h6⟩:=h.ent x hx
 obtain⟨_,hw,hn,_⟩:=askL_ok1 h6
 have hl:x.ear.tones.length=1:=by
  unfold oneE at hw
  split at hw
  ·omega
  ·cases hw
 obtain⟨sl,ts,rds⟩:∃sl ts rds,x.ear=⟨sl,ts,rds⟩:=⟨_,_,_,rfl⟩
 obtain⟨rds,he⟩:=rds
 rw[he] at hl hn h4
 match ts,hl with
 | [⟨lo,hi⟩],_=>
  have hn2:oneV sl lo hi rds≠[]:=by rw[truths_one] at hn;simpa using hn
  exact⟨sl,lo,hi,rds,he,h4,hn2,chkE_oneV h1 (by omega) h3 he (by rw[he];exact h4) hn2⟩
theorem idx_tg{l:List Int}{i:Int}(h:0≤i∧i<l.length):idx (l.map (AV.int .i64)) i=some (.int .i64 (tg l i)):=by
 obtain⟨n,rfl⟩:=Int.eq_ofNat_of_zero_le h.1
 have hn:n<l.length:=by omega
 rw[idx_nat hn]
 simp[tg,List.getD_eq_getElem?_getD,List.getElem?_eq_getElem hn]
theorem rEnt_eq{x:Tn}{h:Int}(hh:1≤h∧h≤4):rEnt x h=(chkE x h).2:=by
 have hw:IntKind.i64.wrap (h-1)=h-1:=wrap64 (by omega) (by omega)
 unfold rEnt chkE
 rw[hw]
 by_cases c1:0≤x.day∧x.day≤60
 ·have nc1:¬¬(0≤x.day∧x.day≤60):=fun c=>c c1
  rw[if_neg nc1,if_neg nc1]
  by_cases c2: -1≤x.hand∧x.hand≤h-1
  ·have nc2:¬¬(-1≤x.hand∧x.hand≤h-1):=fun c=>c c2
   rw[if_neg nc2,if_neg nc2]
   by_cases c3:1≤x.due∧x.due≤100000
   ·have nc3:¬¬(1≤x.due∧x.due≤100000):=fun c=>c c3
    rw[if_neg nc3,if_neg nc3]
    by_cases c4:ck x.ear=0
    ·have nc4:¬(ck x.ear≠0):=fun c=>c c4
     rw[if_neg nc4,if_neg nc4]
     by_cases c5:1<x.ear.tones.length
     ·rw[if_pos c5,if_pos c5]
     ·rw[if_neg c5,if_neg c5]
      have hl:x.ear.tones.length≠0:=fun e=>by simp only[ck] at c4;rw[if_pos e] at c4;split at c4<;> omega
      have h0:oneE x.ear 0=0:=by unfold oneE;rw[if_pos (by omega)]
      have ha:askL x.ear (oneE x.ear 0)=knownL x.ear:=by
       unfold askL;rw[if_neg (by simp[c4]),if_neg (by simp[h0])]
      unfold tonesL valuesL
      rw[ha]
      by_cases hk:(knownL x.ear).2=0
      ·rw[if_pos hk,if_pos hk]
      ·rw[if_neg hk,if_neg hk]
    ·rw[if_pos c4,if_pos c4]
   ·rw[if_pos c3,if_pos c3]
  ·rw[if_pos c2,if_pos c2]
 ·rw[if_pos c1,if_pos c1]
theorem firstE_NZ{α:Type}{f g:α→Int}:∀{l:List α},(∀x∈l,f x=g x)→firstE f l=firstNZ (l.map g)
 | [],_=>rfl
 | x::l,h=>by
  show(if f x=0 then firstE f l else f x)=if g x=0 then firstNZ (l.map g) else g x
  rw[h x (by simp),firstE_NZ fun y hy=>h y (by simp[hy])]
theorem rosR_eq(r:Ros):rosR r=rosE r:=by
 unfold rosR rosE
 by_cases h:headE r=0
 ·rw[if_neg (fun c=>c h),if_neg (fun c=>c h)]
  have hh:=(r.head_of h).hands
  exact firstE_NZ fun x _=>rEnt_eq hh
 ·rw[if_pos h,if_pos h]
end Go.Proofs
namespace Go.Proofs
open Go Go.Mu Go.Ins
variable {S:MC Tryz.prog}
theorem Ros.Good.devR{r:Ros}(h:r.Good){x:Tn}(hx:x∈r.ents):∃a b,tonesL x.ear=([⟨a,b⟩],0)∧Go.Proofs.devR (chkE x r.hands).1=⟨a-x.due,b-x.due⟩∧(1≤a∧a≤100000)∧(1≤b∧b≤100000):=by
 obtain⟨sl,lo,hi,rds,h1,h2,h3,h4⟩:=h.one hx
 have ht:=(okE_of_ck h2).tone ⟨lo,hi⟩ (by simp)
 have m1:=oneV_mem.1 (tg0_mem h3)
 have m2:=oneV_mem.1 (tgl_mem h3)
 simp only at ht
 refine⟨tg (oneV sl lo hi rds) 0,tg (oneV sl lo hi rds) ((oneV sl lo hi rds).length-1),?_,?_,by omega,by omega⟩
 ·rw[h1,tones_one h2 h3];rfl
 ·rw[h4,devR_sub h3]
theorem rdeviation_p(r:Ros)(h:r.Good)(x:Tn)(hx:x∈r.ents)(h1:x.ear.tones.length≤1000000)(h2:x.ear.rds.length≤1000000):PureV S 114 [x.av] (devR (chkE x r.hands).1).av:=by
 obtain⟨a,b,e1,e2,e3,e4⟩:=h.devR hx
 have hd:=(h.ent x hx).2.2.1
 rw[e2]
 refine PvE (Tryz.envOK (S:=S) 26 Tryz.ord114 fs420 fs420_ok) (Rng.plain _) Tryz.kp114 Tryz.func114 rfl ?_
 intro σ
 obtain⟨day,hand,due,ear⟩:=x
 obtain⟨sl,ts,rs⟩:=ear
 simp only[Tn.av,Tn.cells] at h1 h2 e1 hd⊢
 have hwa:IntKind.i64.wrap (a-due)=a-due:=wrap64 (by omega) (by omega)
 have hwb:IntKind.i64.wrap (b-due)=b-due:=wrap64 (by omega) (by omega)
 clear e2 hx
 simp -implicitDefEqProofs (maxSteps:=9^9) (disch:=omega) only[go_sem,simprocAttr,e1,idx0,hwa,hwb,Rng.av]
theorem rdeviations_p(r:Ros)(h:r.Good)(hf:∀x∈r.ents,x.ear.tones.length≤1000000∧x.ear.rds.length≤1000000):PureV S 104 [r.av] (.list .no 2 (((entsL r).map devR).map Rng.av)):=by
 have hp:=fun x hx=>rdeviation_p (S:=S) r h x hx (hf x hx).1 (hf x hx).2
 have hel:=h.entl
 refine PvE (Tryz.envOK (S:=S) 22 (fun _=>([],[])) fs420 fs420_ok) (.map fun x _=>Rng.plain x) Tryz.kp104 Tryz.func104 rfl ?_
 intro σ
 have hm:(entsL r).map devR=r.ents.map fun x=>devR (chkE x r.hands).1:=by simp[entsL]
 rw[hm]
 obtain⟨hands,skill,mn,mx,sets,ents⟩:=r
 simp only[Ros.av] at hp hf hel⊢
 simp -implicitDefEqProofs (maxSteps:=9^9) (disch:=omega) only[go_sem,simprocAttr]
 refine ARun.ghost 3 2 (sz0:=0) rfl (by simp[lookA]) ?_
 simp only[ins,↓reduceIte,List.append_assoc,List.cons_append,List.nil_append,List.length_append,List.length_cons,List.length_nil,Nat.zero_add,Nat.reduceEqDiff]
 refine ARun.forS (Tryz.envOK (S:=S) 22 (fun _=>([],[])) fs420 fs420_ok) ents.length (fun _=>True) (fun i=>[(3,.list (.own (σ.length+1)) 2 (((ents.take i).map fun x=>devR (chkE x hands).1).map Rng.av)),(4,.int .i64 i)]) (fun i j=>σ++(.cells [.int .i64 hands,.int .i64 skill,.int .i64 mn,.int .i64 mx,.list .no 2 (sets.map Sg.av),.list .no 6 (ents.map Tn.av)]:: .tail i 2::j)) [] (by kernel_rfl) (by simp) (by simp[upd,ins,subF,lookA]) trivial ?_ ?_
 ·intro i j hi _ ih
  have hidx:idx (ents.map Tn.av) (i:Int)=some (Tn.av ents[i]):=idx_nat hi
  have hpi:=hp _ (List.getElem_mem hi)
  have hst:(ents.take (i+1)).map (fun x=>devR (chkE x hands).1)=(ents.take i).map (fun x=>devR (chkE x hands).1)++[devR (chkE ents[i] hands).1]:=by rw[List.take_succ_eq_append_getElem hi,List.map_append];rfl
  rw[hst] at ih
  have hbl:((ents.take i).map fun x=>devR (chkE x hands).1).length=i:=by rw[List.length_map,List.length_take];omega
  have hwi:IntKind.i64.wrap ((i:Int)+1)=((i+1:Nat):Int):=by rw[wrap64 (by omega) (by omega)];rfl
  have hcl:∀x:Rng,x.av.cells.length=2:=fun _=>rfl
  have hfl:∀x:Rng,x.av.flat=true:=fun _=>rfl
  generalize devR (chkE ents[i] hands).1=d at *
  generalize ents[i]=x at *
  generalize (ents.take i).map (fun x=>devR (chkE x hands).1)=B at *
  simp only[Tn.av,Tn.cells] at hidx hpi
  simp -implicitDefEqProofs (maxSteps:=9^9) (disch:=omega) only[go_sem,simprocAttr,hidx]
  refine hpi _ _ ?_
  simp -implicitDefEqProofs (maxSteps:=9^9) (disch:=omega) only[go_sem,simprocAttr,hidx,hwi,hbl,hcl,hfl]
  exact(ih trivial j).castS (by simp) (by simp[upd,ins,subF,lookA])
 ·intro j _
  rw[List.take_length]
  simp -implicitDefEqProofs (maxSteps:=9^9) (disch:=omega) only[go_sem,simprocAttr]
end Go.Proofs
