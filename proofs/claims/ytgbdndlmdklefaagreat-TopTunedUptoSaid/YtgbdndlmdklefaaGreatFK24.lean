/- Texts of a proof: lemmas. -/
import Derived.Test.YtgbdndlmdklefaaGreatFK12
import Derived.Test.YtgbdndlmdklefaaGreatFK17
import Derived.Test.YtgbdndlmdklefaaGreatFK23
import Derived.Test.YtgbdndlmdklefaaGreatFK22
import Derived.Test.YtgbdndlmdklefaaGreatFK15
set_option linter.unusedSimpArgs false
set_option linter.unusedVariables false
set_option maxRecDepth 100000
set_option maxHeartbeats 40000000
namespace Go.Proofs
open Go Go.Mu
variable {S:MC Tryz.prog}
def nan_s:=spec1 tI fun _=>some (.bool false)
theorem nan_ok:∀xs v,nan_s xs=some v→PureV S 218 xs v:=by
 refine spec1_ok fun n v h=>?_
 simp only[Option.some.injEq] at h;subst h
 refine PvE (Tryz.envOK (S:=S) 6 (fun _=>([],[])) fs0 fs0_ok) (.bool) Tryz.kp218 Tryz.func218 rfl ?_
 intro σ
 simp only[tI]
 simp -implicitDefEqProofs (maxSteps:=9^9) (disch:=omega) only[go_sem,simprocAttr]
def fs300(f:FuncId)(xs:List AV):Option AV:=if f=218 then nan_s xs else fs0 f xs
theorem fs300_ok{S:MC Tryz.prog}:∀f xs v,fs300 f xs=some v→PureV S f xs v:=by
 intro f xs v h
 unfold fs300 at h
 split at h
 ·rename_i e;subst e;exact nan_ok _ _ h
 exact fs0_ok _ _ _ h
attribute [go_sem] fs300 nan_s
theorem less_p(x y:Int):PureV S 188 [.int .i64 x,.int .i64 y] (.bool (decide (x<y))):=by
 refine PvE (Tryz.envOK (S:=S) 17 (fun _=>([],[])) fs300 fs300_ok) (.bool) Tryz.kp188 Tryz.func188 rfl ?_
 intro σ
 simp -implicitDefEqProofs (maxSteps:=9^9) (disch:=omega) only[go_sem,simprocAttr]
 refine⟨fun h=>by simp[h],fun h=>by simp[h]⟩
def less_s:=spec2 tI tI fun x y=>some (.bool (decide (x<y)))
theorem less_ok:∀xs v,less_s xs=some v→PureV S 188 xs v:=
 spec2_ok fun x y v h=>by simp only[Option.some.injEq] at h;subst h;exact less_p x y
def fs302(f:FuncId)(xs:List AV):Option AV:=if f=188 then less_s xs else fs300 f xs
theorem fs302_ok{S:MC Tryz.prog}:∀f xs v,fs302 f xs=some v→PureV S f xs v:=by
 intro f xs v h
 unfold fs302 at h
 split at h
 ·rename_i e;subst e;exact less_ok _ _ h
 exact fs300_ok _ _ _ h
attribute [go_sem] fs302 less_s
def Tryz.ordIns:Nat→List Nat×List (Nat×List Nat)
 | 4=>([0,0,3,7,15,15,63,127,15,15,527,1807,3855,8191,16383],[(0,[]),(1,[]),(2,[]),(3,[]),(4,[]),(5,[]),(6,[]),(7,[]),(8,[]),(9,[]),(10,[]),(11,[]),(12,[]),(13,[13]),(14,[])])
 | 6=>Tryz.ord182 6
 | _=>([],[])
theorem Tryz.ordIns_4:Tryz.ordIns 4=([0,0,3,7,15,15,63,127,15,15,527,1807,3855,8191,16383],[(0,[]),(1,[]),(2,[]),(3,[]),(4,[]),(5,[]),(6,[]),(7,[]),(8,[]),(9,[]),(10,[]),(11,[]),(12,[]),(13,[13]),(14,[])]):=rfl
theorem Tryz.ordIns_6:Tryz.ordIns 6=Tryz.ord182 6:=rfl
attribute [go_sem] Tryz.ordIns_4 Tryz.ordIns_6
theorem _root_.Go.Mu.ARun.once{E:Env}(hE:EnvOK E){ro:Option Nat}{c:Code}{k:List Item}{kp:Nat→Bool}{tm sl:List (Nat×AV)}{σ:List AObj}{Q:Post}
  (hO:todoOK E (.code c:: .inLoop c::k)=true) (h:ev E ro 100000 (.code c:: .inLoop c::k) ⟨kp,[],sl⟩ σ Q):ARun E ro (.code (.loop c)::k) ⟨kp,tm,sl⟩ σ Q:=
 ARun.anew (fr:=⟨kp,tm,sl⟩) (.loop (ev_sound hE hO h))
def Asc(zs:List Int):Prop:=∀i (h:i+1<zs.length),zs[i]≤zs[i+1]
theorem insAsc_c(zs:List Int)(hs:Asc zs)(hz:0<zs.length)(hn:zs.length≤4294967296){σ:List AObj}{r:Nat}(hg:hget σ r=some (.vec 1 (zs.map (.int .i64)))){Q:AV→List AObj→Prop}(h:Q (.tup []) σ) :
  ACalls S 182 [.vec r zs.length,.int .i64 0,.int .i64 zs.length] σ Q:=by
 refine AcE (Tryz.envOK (S:=S) 49 Tryz.ordIns fs302 fs302_ok) Tryz.kp182 Tryz.func182 rfl ?_
 simp -implicitDefEqProofs (maxSteps:=9^9) (disch:=omega) only[go_sem,simprocAttr]
 refine ARun.forJ (Tryz.envOK (S:=S) 49 Tryz.ordIns fs302 fs302_ok) (zs.length-1) (fun _ τ=>τ=σ) (fun i=>[(6,.int .i64 ((i:Int)+1))]) (by kernel_rfl) (by simp[upd,ins,subF,lookA]) rfl ?_ ?_
 ·rintro i τ hi rfl ih
  simp -implicitDefEqProofs (maxSteps:=9^9) (disch:=omega) only[go_sem,simprocAttr]
  refine ARun.once (Tryz.envOK (S:=S) 49 Tryz.ordIns fs302 fs302_ok) (by kernel_rfl) ?_
  have hi1:i+1<zs.length:=by omega
  have hlt:(tg zs ((i:Int)+1)<tg zs ((i:Int)+1-1))=False:=by
   have h1:=hs i hi1
   have e1:tg zs ((i:Int)+1)=zs[i+1]:=by
    have:((i:Int)+1).toNat=i+1:=by omega
    simp[tg,this,hi1]
   have e0:tg zs ((i:Int)+1-1)=zs[i]:=by
    have:((i:Int)+1-1).toNat=i:=by omega
    simp[tg,this,show i<zs.length by omega]
   rw[e1,e0]
   simp only[eq_iff_iff,iff_false];omega
  simp -implicitDefEqProofs (maxSteps:=9^9) (disch:=omega) only[go_sem,simprocAttr,hg,hlt]
  exact(ih _ rfl).castS rfl (by simp[upd,ins,subF,lookA])
 ·rintro τ rfl
  simp -implicitDefEqProofs (maxSteps:=9^9) (disch:=omega) only[go_sem,simprocAttr]
  exact h
def Tryz.ordPar:Nat→List Nat×List (Nat×List Nat)
 | 5=>([0,0,3,7,15,15,63,127,15,15,527,1807,3855,8191,16383,32767],[(0,[]),(1,[]),(2,[]),(3,[]),(4,[]),(5,[]),(6,[]),(7,[]),(8,[]),(9,[]),(10,[]),(11,[]),(12,[]),(13,[13]),(14,[]),(15,[])])
 | 11=>Tryz.ord187 11
 | 16=>Tryz.ord187 16
 | 17=>Tryz.ord187 17
 | 22=>Tryz.ord187 22
 | 23=>Tryz.ord187 23
 | _=>([],[])
theorem Tryz.ordPar_5:Tryz.ordPar 5=([0,0,3,7,15,15,63,127,15,15,527,1807,3855,8191,16383,32767],[(0,[]),(1,[]),(2,[]),(3,[]),(4,[]),(5,[]),(6,[]),(7,[]),(8,[]),(9,[]),(10,[]),(11,[]),(12,[]),(13,[13]),(14,[]),(15,[])]):=rfl
theorem Tryz.ordPar_11:Tryz.ordPar 11=Tryz.ord187 11:=rfl
theorem Tryz.ordPar_16:Tryz.ordPar 16=Tryz.ord187 16:=rfl
theorem Tryz.ordPar_17:Tryz.ordPar 17=Tryz.ord187 17:=rfl
theorem Tryz.ordPar_22:Tryz.ordPar 22=Tryz.ord187 22:=rfl
theorem Tryz.ordPar_23:Tryz.ordPar 23=Tryz.ord187 23:=rfl
attribute [go_sem] Tryz.ordPar_5 Tryz.ordPar_11 Tryz.ordPar_16 Tryz.ordPar_17 Tryz.ordPar_22 Tryz.ordPar_23
theorem hgetA{σ l:List AObj}{r:Nat}{o:AObj}(hg:hget σ r=some o):hget (σ++l) r=some o:=by
 have:=hget_lt hg
 unfold hget at *
 rw[List.getElem?_append_left this];exact hg
theorem Asc.at{zs:List Int}(hs:Asc zs){i:Nat}(hi:i+1<zs.length):(tg zs ((i:Int)+1)<tg zs ((i:Int)+1-1))=False:=by
 have h1:=hs i hi
 have e1:tg zs ((i:Int)+1)=zs[i+1]:=by
  have:((i:Int)+1).toNat=i+1:=by omega
  simp[tg,this,hi]
 have e0:tg zs ((i:Int)+1-1)=zs[i]:=by
  have:((i:Int)+1-1).toNat=i:=by omega
  simp[tg,this,show i<zs.length by omega]
 rw[e1,e0]
 simp only[eq_iff_iff,iff_false];omega
theorem parAsc_c(zs:List Int)(hs:Asc zs)(hz:0<zs.length)(hn:zs.length≤4294967296){σ:List AObj}{r:Nat}(hg:hget σ r=some (.vec 1 (zs.map (.int .i64)))){Q:AV→List AObj→Prop}(h:Q (.bool true) σ) :
  ACalls S 187 [.vec r zs.length,.int .i64 0,.int .i64 zs.length] σ Q:=by
 refine AcE (Tryz.envOK (S:=S) 133 Tryz.ordPar fs302 fs302_ok) Tryz.kp187 Tryz.func187 rfl ?_
 simp -implicitDefEqProofs (maxSteps:=9^9) (disch:=omega) only[go_sem,simprocAttr]
 refine ARun.once (Tryz.envOK (S:=S) 133 Tryz.ordPar fs302 fs302_ok) (by kernel_rfl) ?_
 simp -implicitDefEqProofs (maxSteps:=9^9) (disch:=omega) only[go_sem,simprocAttr]
 refine ARun.forJ (Tryz.envOK (S:=S) 133 Tryz.ordPar fs302 fs302_ok) (zs.length-1) (fun _ τ=>τ=σ) (fun i=>[(7,.int .i64 ((i:Int)+1))]) (by kernel_rfl) (by simp[upd,ins,subF,lookA]) rfl ?_ ?_
 ·rintro i τ hi rfl ih
  have hlt:=hs.at (i:=i) (by omega)
  simp -implicitDefEqProofs (maxSteps:=9^9) (disch:=omega) only[go_sem,simprocAttr,hg,hlt]
  exact(ih _ rfl).castS rfl (by simp[upd,ins,subF,lookA])
 ·rintro τ rfl
  simp -implicitDefEqProofs (maxSteps:=9^9) (disch:=omega) only[go_sem,simprocAttr,hg]
  exact h
theorem Asc.le{zs:List Int}(hs:Asc zs):∀(d i:Nat) (h:i+d<zs.length),zs[i]'(by omega)≤zs[i+d]
 | 0,i,h=>Int.le_refl _
 | d+1,i,h=>Int.le_trans (hs.le d i (by omega)) (hs (i+d) (by omega))
theorem Asc.not_lt{zs:List Int}(hs:Asc zs){a b:Int}(h0:0≤a)(hab:a≤b)(hb:b<zs.length):(tg zs b<tg zs a)=False:=by
 obtain⟨i,rfl⟩:=Int.eq_ofNat_of_zero_le h0
 obtain⟨j,rfl⟩:=Int.eq_ofNat_of_zero_le (Int.le_trans h0 hab)
 have hj:j<zs.length:=by omega
 have hi:i<zs.length:=by omega
 have h1:=hs.le (j-i) i (by omega)
 have e:i+(j-i)=j:=by omega
 have h2:zs[i]≤zs[j]:=by simpa only[e] using h1
 have e1:tg zs (j:Int)=zs[j]:=by simp[tg,hj]
 have e0:tg zs (i:Int)=zs[i]:=by simp[tg,hi]
 rw[e1,e0]
 simp only[eq_iff_iff,iff_false];omega
theorem order2_c(zs:List Int)(hs:Asc zs)(hn:zs.length≤4294967296){a b:Int}(h0:0≤a)(hab:a≤b)(hb:b<zs.length){σ:List AObj}{r q:Nat}(hg:hget σ r=some (.vec 1 (zs.map (.int .i64)))){Q:AV→List AObj→Prop}(h:Q (.tup [.int .i64 a,.int .i64 b]) σ) :
  ACalls S 236 [.vec r zs.length,.int .i64 a,.int .i64 b,.ptr q 0] σ Q:=by
 refine AcE (Tryz.envOK (S:=S) 28 Tryz.ord236 fs302 fs302_ok) Tryz.kp236 Tryz.func236 rfl ?_
 have hlt:=hs.not_lt h0 hab hb
 simp -implicitDefEqProofs (maxSteps:=9^9) (disch:=omega) only[go_sem,simprocAttr,hg,hlt]
 exact h
theorem median_c(zs:List Int)(hs:Asc zs)(hn:zs.length≤4294967296){a b d:Int}(h0:0≤a)(hab:a≤b)(hbd:b≤d)(hd:d<zs.length){σ:List AObj}{r q:Nat}(hg:hget σ r=some (.vec 1 (zs.map (.int .i64)))){Q:AV→List AObj→Prop}(h:Q (.int .i64 b) σ) :
  ACalls S 223 [.vec r zs.length,.int .i64 a,.int .i64 b,.int .i64 d,.ptr q 0] σ Q:=by
 refine AcE (Tryz.envOK (S:=S) 36 (fun _=>([],[])) fs302 fs302_ok) Tryz.kp223 Tryz.func223 rfl ?_
 simp -implicitDefEqProofs (maxSteps:=9^9) (disch:=omega) only[go_sem,simprocAttr]
 refine order2_c zs hs hn h0 hab (by omega) hg ?_
 simp -implicitDefEqProofs (maxSteps:=9^9) (disch:=omega) only[go_sem,simprocAttr]
 refine order2_c zs hs hn (by omega) hbd hd hg ?_
 simp -implicitDefEqProofs (maxSteps:=9^9) (disch:=omega) only[go_sem,simprocAttr]
 refine order2_c zs hs hn h0 hab (by omega) hg ?_
 simp -implicitDefEqProofs (maxSteps:=9^9) (disch:=omega) only[go_sem,simprocAttr]
 exact h
theorem pivot_c(zs:List Int)(hs:Asc zs)(h8:8≤zs.length)(h50:zs.length<50){σ:List AObj}{r:Nat}(hg:hget σ r=some (.vec 1 (zs.map (.int .i64)))){Q:AV→List AObj→Prop}(h:∀p τ,Q (.tup [.int .i64 p,.int .i64 1]) (σ++τ)) :
  ACalls S 185 [.vec r zs.length,.int .i64 0,.int .i64 zs.length] σ Q:=by
 refine AcE (Tryz.envOK (S:=S) 57 (fun _=>([],[])) fs302 fs302_ok) Tryz.kp185 Tryz.func185 rfl ?_
 simp -implicitDefEqProofs (maxSteps:=9^9) (disch:=omega) only[go_sem,simprocAttr]
 have hq:((zs.length:Int)-0).tdiv 4=(zs.length:Int)/4:=by rw[Int.sub_zero];exact Int.tdiv_eq_ediv_of_nonneg (by omega)
 obtain⟨q,eq,q0,q1⟩:∃q:Int,(zs.length:Int)/4=q∧0≤q∧4*q≤zs.length:=⟨_,rfl,by omega,by omega⟩
 rw[hq,eq]
 have w1:IntKind.i64.wrap q=q:=wrap64 (by omega) (by omega)
 have w2:IntKind.i64.wrap (q*1)=q:=by rw[Int.mul_one];exact w1
 have w3:IntKind.i64.wrap (q*2)=q*2:=wrap64 (by omega) (by omega)
 have w4:IntKind.i64.wrap (q*3)=q*3:=wrap64 (by omega) (by omega)
 simp only[w1,w2,w3,w4,Int.zero_add]
 refine median_c zs hs (by omega) q0 (by omega) (by omega) (by omega) (hgetA hg) ?_
 simp -implicitDefEqProofs (maxSteps:=9^9) (disch:=omega) only[go_sem,simprocAttr]
 exact h _ _
theorem pdqAsc_c(zs:List Int)(hs:Asc zs)(hz:0<zs.length)(h50:zs.length<50){lim:Int}(hl:lim≠0){σ:List AObj}{r:Nat}(hg:hget σ r=some (.vec 1 (zs.map (.int .i64)))){Q:AV→List AObj→Prop}(h:∀τ,Q (.tup []) (σ++τ)) :
  ACalls S 141 [.vec r zs.length,.int .i64 0,.int .i64 zs.length,.int .i64 lim] σ Q:=by
 have h0:Q (.tup []) σ:=by simpa using h []
 have hl':(lim=0)=False:=by simp[hl]
 refine AcE (Tryz.envOK (S:=S) 134 Tryz.ord141 fs302 fs302_ok) Tryz.kp141 Tryz.func141 rfl ?_
 simp -implicitDefEqProofs (maxSteps:=9^9) (disch:=omega) only[go_sem,simprocAttr]
 refine ARun.once (Tryz.envOK (S:=S) 134 Tryz.ord141 fs302 fs302_ok) (by kernel_rfl) ?_
 by_cases h12:zs.length≤12
 ·simp -implicitDefEqProofs (maxSteps:=9^9) (disch:=omega) only[go_sem,simprocAttr]
  refine insAsc_c zs hs hz (by omega) hg ?_
  simp -implicitDefEqProofs (maxSteps:=9^9) (disch:=omega) only[go_sem,simprocAttr]
  exact h0
 ·simp -implicitDefEqProofs (maxSteps:=9^9) (disch:=omega) only[go_sem,simprocAttr,hl']
  refine pivot_c zs hs (by omega) h50 hg fun p τ=>?_
  simp -implicitDefEqProofs (maxSteps:=9^9) (disch:=omega) only[go_sem,simprocAttr]
  refine parAsc_c zs hs hz (by omega) (hgetA hg) ?_
  simp -implicitDefEqProofs (maxSteps:=9^9) (disch:=omega) only[go_sem,simprocAttr]
  exact h τ
theorem giveA_of{X:AV→List AObj→Prop}{σ:List AObj}{v:Option AV}{x:AV}(h:v=some x)(hx:X x σ):giveA X σ v:=by subst h;exact hx
theorem len64_p(n:Nat)(h1:1≤n)(h2:n<50):PureV S 192 [.int .u64 n] (.int .i64 ((Nat.log2 n+1:Nat):Int)):=by
 refine PvE (Tryz.envOK (S:=S) 25 (fun _=>([],[])) fs0 fs0_ok) (.int) Tryz.kp192 Tryz.func192 rfl ?_
 intro σ
 simp -implicitDefEqProofs (maxSteps:=9^9) (disch:=omega) only[go_sem,simprocAttr]
 refine giveA_of (x:= .int .u8 ((Nat.log2 n+1:Nat):Int)) ?_ ?_
 ·have hw:IntKind.u8.wrap (n:Int)=n:=by unfold IntKind.wrap;simp[IntKind.signed,IntKind.bits];omega
  rw[hw,if_pos (by omega),Int.toNat_natCast]
  rcases(by omega:n=1∨n=2∨n=3∨n=4∨n=5∨n=6∨n=7∨n=8∨n=9∨n=10∨n=11∨n=12∨n=13∨n=14∨n=15∨n=16∨n=17∨n=18∨n=19∨n=20∨n=21∨n=22∨n=23∨n=24∨n=25∨n=26∨n=27∨n=28∨n=29∨n=30∨n=31∨n=32∨n=33∨n=34∨n=35∨n=36∨n=37∨n=38∨n=39∨n=40∨n=41∨n=42∨n=43∨n=44∨n=45∨n=46∨n=47∨n=48∨n=49) with rfl | rfl | rfl | rfl | rfl | rfl | rfl | rfl | rfl | rfl | rfl | rfl | rfl | rfl | rfl | rfl | rfl | rfl | rfl | rfl | rfl | rfl | rfl | rfl | rfl | rfl | rfl | rfl | rfl | rfl | rfl | rfl | rfl | rfl | rfl | rfl | rfl | rfl | rfl | rfl | rfl | rfl | rfl | rfl | rfl | rfl | rfl | rfl | rfl<;> rfl
 ·have hl:Nat.log2 n+1<10:=by
   have:Nat.log2 n<6:=(Nat.log2_lt (by omega)).2 (by omega)
   omega
  simp -implicitDefEqProofs (maxSteps:=9^9) (disch:=omega) only[go_sem,simprocAttr]
theorem len_p(n:Nat)(h1:1≤n)(h2:n<50):PureV S 142 [.int .u64 n] (.int .i64 ((Nat.log2 n+1:Nat):Int)):=by
 refine PvE (Tryz.envOK (S:=S) 8 (fun _=>([],[])) fs0 fs0_ok) (.int) Tryz.kp142 Tryz.func142 rfl ?_
 intro σ
 simp -implicitDefEqProofs (maxSteps:=9^9) (disch:=omega) only[go_sem,simprocAttr]
 refine len64_p n h1 h2 _ _ ?_
 simp -implicitDefEqProofs (maxSteps:=9^9) (disch:=omega) only[go_sem,simprocAttr]
theorem sortAsc_c(zs:List Int)(hs:Asc zs)(hz:0<zs.length)(h50:zs.length<50){σ:List AObj}{r:Nat}(hg:hget σ r=some (.vec 1 (zs.map (.int .i64)))){Q:AV→List AObj→Prop}(h:∀τ,Q (.tup []) (σ++τ)) :
  ACalls S 88 [.vec r zs.length] σ Q:=by
 refine AcE (Tryz.envOK (S:=S) 11 (fun _=>([],[])) fs302 fs302_ok) Tryz.kp88 Tryz.func88 rfl ?_
 have hw:IntKind.u64.wrap (zs.length:Int)=zs.length:=by unfold IntKind.wrap;simp[IntKind.signed,IntKind.bits];omega
 simp -implicitDefEqProofs (maxSteps:=9^9) (disch:=omega) only[go_sem,simprocAttr]
 rw[hw]
 refine len_p zs.length hz h50 _ _ ?_
 simp -implicitDefEqProofs (maxSteps:=9^9) (disch:=omega) only[go_sem,simprocAttr]
 refine pdqAsc_c zs hs hz h50 (by omega) hg fun τ=>?_
 simp -implicitDefEqProofs (maxSteps:=9^9) (disch:=omega) only[go_sem,simprocAttr]
 exact h τ
def trueM(l:List Int):List (Int×Bool):=l.map fun k=>(k,true)
theorem fIdx_trueM{k:Int}:∀{l:List Int} {i:Nat},k∈l→∃j,fIdx k (trueM l) i=some (j,true)
 | [],_,h=>by simp at h
 | x::l,i,h=>by
  simp only[trueM,List.map_cons,fIdx]
  by_cases e:k=x
  ·exact⟨i,by rw[if_pos e]⟩
  ·rw[if_neg e]
   exact fIdx_trueM (by rcases List.mem_cons.1 h with h | h;exact absurd h e;exact h)
theorem fIdx_trueM_no{k:Int}:∀{l:List Int} {i:Nat},k∉l→fIdx k (trueM l) i=none
 | [],_,h=>rfl
 | x::l,i,h=>by
  simp only[trueM,List.map_cons,fIdx]
  rw[if_neg (fun e=>h (by simp[e]))]
  exact fIdx_trueM_no fun hm=>h (List.mem_cons_of_mem _ hm)
theorem lookM{l:List Int}{k:Int}{σ:List AObj}:lookR false (.bool false) σ (findA (.int .i64 k) (mapB (trueM l)) 0)=some (.bool (decide (k∈l)),σ):=by
 rw[lookB]
 unfold mget
 by_cases h:k∈l
 ·obtain⟨j,hj⟩:=fIdx_trueM (i:=0) h
  rw[hj];simp[h]
 ·rw[fIdx_trueM_no h];simp[h]
theorem updM{l:List Int}{k:Int}{r:Nat}{σ:List AObj}(h:k∉l):updR r (mapB (trueM l)) (.int .i64 k) (.bool true) σ (findA (.int .i64 k) (mapB (trueM l)) 0)=some (.tup [],hset σ r (.map (mapB (trueM (l++[k]))))):=by
 rw[updB]
 unfold mset
 rw[fIdx_trueM_no h]
 simp[trueM]
def addN(out:List Int)(n:Int):List Int:=if n∈out then out else out++[n]
def firstsL(l:List Int):List Int:=l.foldl addN []
def sortL(l:List Int):List Int:=l.mergeSort fun x y=>decide (x≤y)
theorem addN_len(l:List Int):∀out,(l.foldl addN out).length≤out.length+l.length:=by
 induction l with
 | nil=>intro out;simp
 | cons x l ih=>
  intro out
  refine Nat.le_trans (ih _) ?_
  simp only[addN,List.length_cons]
  split
  ·omega
  ·simp;omega
theorem addN_mem(l:List Int):∀out x,x∈l.foldl addN out↔x∈out∨x∈l:=by
 induction l with
 | nil=>intro out x;simp
 | cons y l ih=>
  intro out x
  rw[List.foldl_cons,ih]
  unfold addN
  by_cases h:y∈out
  ·rw[if_pos h];simp only[List.mem_cons]
   constructor
   ·rintro(h1 | h1);exact .inl h1;exact .inr (.inr h1)
   ·rintro(h1 | rfl | h1);exact .inl h1;exact .inl h;exact .inr h1
  ·rw[if_neg h];simp only[List.mem_cons,List.mem_append,List.not_mem_nil,or_false]
   constructor
   ·rintro((h1 | h1) | h1);exact .inl h1;exact .inr (.inl h1);exact .inr (.inr h1)
   ·rintro(h1 | h1 | h1);exact .inl (.inl h1);exact .inl (.inr h1);exact .inr h1
theorem sortL_len(l:List Int):(sortL l).length=l.length:=List.length_mergeSort _
def oneE(e:Ear)(x:Int):Int:=if 0≤x∧x≤e.tones.length-1 then 0 else 3
def valuesL(e:Ear)(x:Int):List Int×Int:=
 if(askL e (oneE e x)).2=0 then(sortL (firstsL ((truthsL e).map fun t=>tg t x)),0) else([],(askL e (oneE e x)).2)
theorem askL_ok1{e:Ear}{w:Int}(h:(askL e w).2=0):ck e=0∧w=0∧truthsL e≠[]∧askL e w=(truthsL e,0):=askL_ok h
theorem Asc.pairwise{zs:List Int}(hs:Asc zs):zs.Pairwise (· ≤·):=by
 rw[List.pairwise_iff_getElem]
 intro i j hi hj hij
 have h:=hs.le (j-i) i (by omega)
 have e:i+(j-i)=j:=by omega
 simpa only[e] using h
theorem sortL_asc{zs:List Int}(hs:Asc zs):sortL zs=zs:=List.mergeSort_of_pairwise (hs.pairwise.imp fun h=>by simpa using h)
theorem firsts_self:∀(l out:List Int),(out++l).Nodup→l.foldl addN out=out++l
 | [],out,_=>by simp
 | x::l,out,h=>by
  have hx:x∉out:=fun hm=>by
   have:=(List.nodup_append.1 h).2.2 x hm x (by simp)
   exact this rfl
  rw[List.foldl_cons,addN,if_neg hx,firsts_self l (out++[x]) (by simpa using h)]
  simp
theorem flat_asc(P:Nat→Bool)(a:Int):∀l:List Nat,l.Pairwise (· < ·)→((l.flatMap fun k=>if P k then[a+(k:Int)] else[]).Pairwise (· < ·))∧(∀x∈(l.flatMap fun k=>if P k then[a+(k:Int)] else[]),∃k∈l,x=a+k)∧(l.flatMap fun k=>if P k then[a+(k:Int)] else[]).length≤l.length
 | [],_=>by simp
 | k::l,h=>by
  obtain⟨h1,h2⟩:=List.pairwise_cons.1 h
  obtain⟨i1,i2,i3⟩:=flat_asc P a l h2
  rw[List.flatMap_cons]
  by_cases hp:P k=true
  ·rw[if_pos hp]
   refine⟨List.pairwise_cons.2 ⟨fun y hy=>?_,i1⟩,fun x hx=>?_,by simp only[List.length_append,List.length_cons,List.length_nil];omega⟩
   ·obtain⟨m,hm,rfl⟩:=i2 y hy
    have:=h1 m hm;omega
   ·rcases List.mem_cons.1 hx with rfl | hx
    ·exact⟨k,by simp,rfl⟩
    ·obtain⟨m,hm,rfl⟩:=i2 x hx;exact⟨m,by simp[hm],rfl⟩
  ·rw[if_neg hp]
   refine⟨by rw[List.nil_append];exact i1,fun x hx=>?_,by simp only[List.nil_append,List.length_cons];omega⟩
   obtain⟨m,hm,rfl⟩:=i2 x (by simpa using hx)
   exact⟨m,by simp[hm],rfl⟩
theorem one_asc{e:Ear}(he:OkE e)(h1:e.tones.length=1):Asc (firstsL ((truthsL e).map fun t=>tg t 0))∧(firstsL ((truthsL e).map fun t=>tg t 0)).length<50:=by
 have hw:=he.tone (e.tones.getD 0 default) (by rw[List.getD_eq_getElem?_getD,List.getElem?_eq_getElem (by omega)];exact List.getElem_mem _)
 generalize hww:e.tones.getD 0 default=w at hw
 have hT:(truthsL e).map (fun t=>tg t 0)=(List.range (w.hi-w.lo+1).toNat).flatMap fun(k:Nat)=>if(e.rds.all fun r=>isR r e.slack (setI [0,0,0] 0 (w.lo+k))) then[w.lo+(k:Int)] else[]:=by
  unfold truthsL
  rw[h1]
  simp only[allT,hww,List.map_flatMap]
  congr 1
  funext k
  refine(?_:List.map (fun t=>tg t 0) (if(e.rds.all fun r=>isR r e.slack (setI [0,0,0] 0 (w.lo+k)))=true then[setI [0,0,0] 0 (w.lo+k)] else[])=_)
  by_cases hP:(e.rds.all fun r=>isR r e.slack (setI [0,0,0] 0 (w.lo+k)))=true
  ·rw[if_pos hP,if_pos hP];rfl
  ·rw[if_neg hP,if_neg hP];rfl
 obtain⟨i1,_,i3⟩:=flat_asc (fun k=>e.rds.all fun r=>isR r e.slack (setI [0,0,0] 0 (w.lo+k))) w.lo (List.range (w.hi-w.lo+1).toNat) List.pairwise_lt_range
 rw[hT]
 generalize ((List.range (w.hi-w.lo+1).toNat).flatMap fun(k:Nat)=>if(e.rds.all fun r=>isR r e.slack (setI [0,0,0] 0 (w.lo+k))) then[w.lo+(k:Int)] else[])=L at i1 i3⊢
 have hf:firstsL L=L:=by
  have:=firsts_self L [] (by rw[List.nil_append];exact i1.imp fun h=>by omega)
  simpa[firstsL] using this
 rw[hf]
 refine⟨fun i hi=>?_,?_⟩
 ·have:=(List.pairwise_iff_getElem.1 i1) i (i+1) (by omega) hi (by omega)
  omega
 ·simp at i3;omega
theorem values1_p(e:Ear)(x:Int)(ht1:e.tones.length≤1)(h1:e.tones.length≤4294967296)(h2:e.rds.length≤4294967296):PureV S 126 [e.av,.int .i64 x] (.tup [.list .no 1 ((valuesL e x).1.map (.int .i64)),.int .i64 (valuesL e x).2]):=by
 by_cases hk:(askL e (oneE e x)).2=0
 ·obtain⟨hc,hw,hn,hke⟩:=askL_ok hk
  have he:=okE_of_ck hc
  have htl:=truthsL_len he
  have hx:0≤x∧x≤2:=by
   unfold oneE at hw
   split at hw
   ·have:=he.len;omega
   ·cases hw
  have hv:valuesL e x=(sortL (firstsL ((truthsL e).map fun t=>tg t x)),0):=by unfold valuesL;rw[if_pos hk]
  rw[hv]
  intro σ Q hq
  have hQ:Q (.tup [.list .no 1 ((sortL (firstsL ((truthsL e).map fun t=>tg t x))).map (.int .i64)),.int .i64 0]) σ:=hq
  refine ACalls.clean ?_
  refine ACalls.frozeT ?_
  refine AcE (Tryz.envOK (S:=S) 48 Tryz.ord126 fs8 fs8_ok) Tryz.kp126 Tryz.func126 rfl ?_
  have hxl:(x≤(e.tones.length:Int)-1)=True:=by
   unfold oneE at hw
   split at hw
   ·rename_i h;exact eq_true h.2
   ·cases hw
  rw[hw] at hke
  simp only[Ear.av]
  simp -implicitDefEqProofs (maxSteps:=9^9) (disch:=omega) only[go_sem,reduceCtorEq,Nat.reduceAdd,Nat.reduceSub,Nat.reduceMul,Nat.reduceLT,Nat.reduceLeDiff,Nat.reduceEqDiff,Nat.reduceBEq,Int.reduceToNat,Int.reduceLT,Int.reduceLE,Int.reduceEq,Int.reduceNeg,Int.reduceAdd,Int.reduceSub,Int.reduceMul,↓reduceIte,Int.reduceBEq,Int.reduceBNe,hke,hxl,tavs]
  refine ARun.ghostV 9 1 (sz0:=0) rfl (by simp[lookA]) ?_
  simp only[ins,↓reduceIte,List.append_assoc,List.cons_append,List.nil_append,List.length_append,List.length_cons,List.length_nil,Nat.zero_add,Nat.reduceEqDiff]
  obtain⟨hAsc,h50⟩: Asc (firstsL ((truthsL e).map fun t=>tg t x))∧(firstsL ((truthsL e).map fun t=>tg t x)).length<50:=by
   have hx0:x=0:=by
    unfold oneE at hw
    split at hw
    ·omega
    ·cases hw
   rw[hx0]
   refine one_asc he ?_
   unfold oneE at hw
   split at hw
   ·omega
   ·cases hw
  have hL:truthsL e≠[]:=hn
  have h3:∀t∈truthsL e,t.length=3:=fun t ht=>(truthsL_ok he t ht).1
  clear hq hv hke hk hc he
  generalize truthsL e=L at hL h3 htl hQ hAsc h50⊢
  refine ARun.forS (Tryz.envOK (S:=S) 48 Tryz.ord126 fs8 fs8_ok) L.length (fun _=>True) (fun i=>[(9,.vec (σ.length+2) (firstsL ((L.take i).map fun t=>tg t x)).length),(27,.int .i64 i)]) (fun i j=>σ++(.cells e.cells:: .map (mapB (trueM (firstsL ((L.take i).map fun t=>tg t x)))):: .vec 1 ((firstsL ((L.take i).map fun t=>tg t x)).map (.int .i64))::j)) [] (by kernel_rfl) (by simp[Ear.cells,firstsL,trueM,mapB]) (by simp[upd,ins,subF,lookA,firstsL]) trivial ?_ ?_
  ·intro i j hi _ ih
   have hmi:L[i]∈L:=List.getElem_mem hi
   have h3i:=h3 _ hmi
   have hstep:firstsL ((L.take (i+1)).map fun t=>tg t x)=addN (firstsL ((L.take i).map fun t=>tg t x)) (tg L[i] x):=by
    unfold firstsL;rw[List.take_succ_eq_append_getElem hi,List.map_append,List.foldl_append];rfl
   rw[hstep] at ih
   have hle:(firstsL ((L.take i).map fun t=>tg t x)).length≤i:=by
    refine Nat.le_trans (addN_len _ []) ?_
    simp;omega
   generalize firstsL ((L.take i).map fun t=>tg t x)=O at hle ih⊢
   clear hstep
   have hlk:∀σ,lookR false (.bool false) σ (findA (.int .i64 (tg L[i] x)) (mapB (trueM O)) 0)=some (.bool (decide (tg L[i] x∈O)),σ):=fun _=>lookM
   have hup:∀r σ,tg L[i] x∉O→updR r (mapB (trueM O)) (.int .i64 (tg L[i] x)) (.bool true) σ (findA (.int .i64 (tg L[i] x)) (mapB (trueM O)) 0)=some (.tup [],hset σ r (.map (mapB (trueM (O++[tg L[i] x]))))):=fun _ _ h=>updM h
   by_cases hm:tg L[i] x∈O
   ·have ha:addN O (tg L[i] x)=O:=if_pos hm
    rw[ha] at ih
    have hd:decide (tg L[i] x∈O)=true:=decide_eq_true hm
    rw[hd] at hlk
    simp -implicitDefEqProofs (maxSteps:=9^9) (disch:=omega) only[go_sem,reduceCtorEq,Nat.reduceAdd,Nat.reduceSub,Nat.reduceMul,Nat.reduceLT,Nat.reduceLeDiff,Nat.reduceEqDiff,Nat.reduceBEq,Int.reduceToNat,Int.reduceLT,Int.reduceLE,Int.reduceEq,Int.reduceNeg,Int.reduceAdd,Int.reduceSub,Int.reduceMul,↓reduceIte,Int.reduceBEq,Int.reduceBNe,tav,hlk]
    refine(ih trivial (j++[.cells (L[i].map (.int .i64))])).castS (by simp) (by simp[upd,ins,subF,lookA,tav])
   ·have ha:addN O (tg L[i] x)=O++[tg L[i] x]:=if_neg hm
    rw[ha] at ih
    have hd:decide (tg L[i] x∈O)=false:=decide_eq_false hm
    rw[hd] at hlk
    replace hup:=fun r σ=>hup r σ hm
    simp -implicitDefEqProofs (maxSteps:=9^9) (disch:=omega) only[go_sem,reduceCtorEq,Nat.reduceAdd,Nat.reduceSub,Nat.reduceMul,Nat.reduceLT,Nat.reduceLeDiff,Nat.reduceEqDiff,Nat.reduceBEq,Int.reduceToNat,Int.reduceLT,Int.reduceLE,Int.reduceEq,Int.reduceNeg,Int.reduceAdd,Int.reduceSub,Int.reduceMul,↓reduceIte,Int.reduceBEq,Int.reduceBNe,tav,hlk,hup]
    refine(ih trivial (j++[.cells (L[i].map (.int .i64))])).castS (by simp) (by simp[upd,ins,subF,lookA,tav])
  ·intro j _
   rw[List.take_length]
   have hfl:(firstsL (L.map fun t=>tg t x)).length≤4294967296:=by
    refine Nat.le_trans (addN_len _ []) ?_
    simp;omega
   have hf0:firstsL (L.map fun t=>tg t x)≠[]:=by
    obtain⟨t,ht⟩:=List.exists_mem_of_ne_nil _ hL
    have:tg t x∈firstsL (L.map fun t=>tg t x):=(addN_mem _ [] _).2 (.inr (List.mem_map.2 ⟨t,ht,rfl⟩))
    exact List.ne_nil_of_mem this
   generalize firstsL (L.map fun t=>tg t x)=O at hfl hf0 hQ hAsc h50⊢
   simp -implicitDefEqProofs (maxSteps:=9^9) (disch:=omega) only[go_sem,reduceCtorEq,Nat.reduceAdd,Nat.reduceSub,Nat.reduceMul,Nat.reduceLT,Nat.reduceLeDiff,Nat.reduceEqDiff,Nat.reduceBEq,Int.reduceToNat,Int.reduceLT,Int.reduceLE,Int.reduceEq,Int.reduceNeg,Int.reduceAdd,Int.reduceSub,Int.reduceMul,↓reduceIte,Int.reduceBEq,Int.reduceBNe]
   have hso:sortL O=O:=sortL_asc hAsc
   rw[hso] at hQ
   refine sortAsc_c O hAsc (List.length_pos_iff.2 hf0) h50 (by rw[hget_at];rfl) fun τ=>?_
   simp only[List.append_assoc,List.cons_append]
   simp -implicitDefEqProofs (maxSteps:=9^9) (disch:=omega) only[go_sem,reduceCtorEq,Nat.reduceAdd,Nat.reduceSub,Nat.reduceMul,Nat.reduceLT,Nat.reduceLeDiff,Nat.reduceEqDiff,Nat.reduceBEq,Int.reduceToNat,Int.reduceLT,Int.reduceLE,Int.reduceEq,Int.reduceNeg,Int.reduceAdd,Int.reduceSub,Int.reduceMul,↓reduceIte,Int.reduceBEq,Int.reduceBNe]
   refine⟨_,0,σ.length+2,1,O.map (.int .i64),rfl,by simp,by rw[hget_at];rfl,_,_,hset_at,Weak.refl _,?_,hQ⟩
   exact(Plain.tup (by simp;exact⟨Plain.ints,.int⟩)) _
 ·have hv:valuesL e x=([],(askL e (oneE e x)).2):=by unfold valuesL;rw[if_neg hk]
  rw[hv]
  refine PvE (Tryz.envOK (S:=S) 48 Tryz.ord126 fs8 fs8_ok) (.tup (by simp;exact⟨Plain.ints (xs:=[]),.int⟩)) Tryz.kp126 Tryz.func126 rfl ?_
  intro σ
  simp only[oneE] at hk⊢
  have hk':¬(askL ⟨e.slack,e.tones,e.rds⟩ (if 0≤x∧x≤(e.tones.length:Int)-1 then 0 else 3)).2=0:=hk
  simp only[Ear.av]
  simp -implicitDefEqProofs (maxSteps:=9^9) (disch:=omega) only[go_sem,reduceCtorEq,Nat.reduceAdd,Nat.reduceSub,Nat.reduceMul,Nat.reduceLT,Nat.reduceLeDiff,Nat.reduceEqDiff,Nat.reduceBEq,Int.reduceToNat,Int.reduceLT,Int.reduceLE,Int.reduceEq,Int.reduceNeg,Int.reduceAdd,Int.reduceSub,Int.reduceMul,↓reduceIte,Int.reduceBEq,Int.reduceBNe,hk',tavs]
  first | done | simp
theorem values1_v(e:Ear)(x:Int)(ht1:e.tones.length≤1)(h1:e.tones.length≤4294967296)(h2:e.rds.length≤4294967296)(hk:(askL e (oneE e x)).2=0){σ:List AObj}{Q:AV→List AObj→Prop}
  (hq:∀mm j,Q (.tup [.vec (σ.length+2) (valuesL e x).1.length,.int .i64 0]) (σ++(.cells e.cells:: .map mm:: .vec 1 ((valuesL e x).1.map (.int .i64))::j))):ACalls S 126 [e.av,.int .i64 x] σ Q:=by
 ·obtain⟨hc,hw,hn,hke⟩:=askL_ok hk
  have he:=okE_of_ck hc
  have htl:=truthsL_len he
  have hx:0≤x∧x≤2:=by
   unfold oneE at hw
   split at hw
   ·have:=he.len;omega
   ·cases hw
  have hv:valuesL e x=(sortL (firstsL ((truthsL e).map fun t=>tg t x)),0):=by unfold valuesL;rw[if_pos hk]
  rw[hv] at hq
  have hQ:∀mm j,Q (.tup [.vec (σ.length+2) (sortL (firstsL ((truthsL e).map fun t=>tg t x))).length,.int .i64 0]) (σ++(.cells e.cells:: .map mm:: .vec 1 ((sortL (firstsL ((truthsL e).map fun t=>tg t x))).map (.int .i64))::j)):=hq
  refine AcE (Tryz.envOK (S:=S) 48 Tryz.ord126 fs8 fs8_ok) Tryz.kp126 Tryz.func126 rfl ?_
  have hxl:(x≤(e.tones.length:Int)-1)=True:=by
   unfold oneE at hw
   split at hw
   ·rename_i h;exact eq_true h.2
   ·cases hw
  rw[hw] at hke
  simp only[Ear.av]
  simp -implicitDefEqProofs (maxSteps:=9^9) (disch:=omega) only[go_sem,simprocAttr,hke,hxl,tavs]
  refine ARun.ghostV 9 1 (sz0:=0) rfl (by simp[lookA]) ?_
  simp only[ins,↓reduceIte,List.append_assoc,List.cons_append,List.nil_append,List.length_append,List.length_cons,List.length_nil,Nat.zero_add,Nat.reduceEqDiff]
  obtain⟨hAsc,h50⟩: Asc (firstsL ((truthsL e).map fun t=>tg t x))∧(firstsL ((truthsL e).map fun t=>tg t x)).length<50:=by
   have hx0:x=0:=by
    unfold oneE at hw
    split at hw
    ·omega
    ·cases hw
   rw[hx0]
   refine one_asc he ?_
   unfold oneE at hw
   split at hw
   ·omega
   ·cases hw
  have hL:truthsL e≠[]:=hn
  have h3:∀t∈truthsL e,t.length=3:=fun t ht=>(truthsL_ok he t ht).1
  clear hq hv hke hk hc he
  generalize truthsL e=L at hL h3 htl hQ hAsc h50⊢
  refine ARun.forS (Tryz.envOK (S:=S) 48 Tryz.ord126 fs8 fs8_ok) L.length (fun _=>True) (fun i=>[(9,.vec (σ.length+2) (firstsL ((L.take i).map fun t=>tg t x)).length),(27,.int .i64 i)]) (fun i j=>σ++(.cells e.cells:: .map (mapB (trueM (firstsL ((L.take i).map fun t=>tg t x)))):: .vec 1 ((firstsL ((L.take i).map fun t=>tg t x)).map (.int .i64))::j)) [] (by kernel_rfl) (by simp[Ear.cells,firstsL,trueM,mapB]) (by simp[upd,ins,subF,lookA,firstsL]) trivial ?_ ?_
  ·intro i j hi _ ih
   have hmi:L[i]∈L:=List.getElem_mem hi
   have h3i:=h3 _ hmi
   have hstep:firstsL ((L.take (i+1)).map fun t=>tg t x)=addN (firstsL ((L.take i).map fun t=>tg t x)) (tg L[i] x):=by
    unfold firstsL;rw[List.take_succ_eq_append_getElem hi,List.map_append,List.foldl_append];rfl
   rw[hstep] at ih
   have hle:(firstsL ((L.take i).map fun t=>tg t x)).length≤i:=by
    refine Nat.le_trans (addN_len _ []) ?_
    simp;omega
   generalize firstsL ((L.take i).map fun t=>tg t x)=O at hle ih⊢
   clear hstep
   have hlk:∀σ,lookR false (.bool false) σ (findA (.int .i64 (tg L[i] x)) (mapB (trueM O)) 0)=some (.bool (decide (tg L[i] x∈O)),σ):=fun _=>lookM
   have hup:∀r σ,tg L[i] x∉O→updR r (mapB (trueM O)) (.int .i64 (tg L[i] x)) (.bool true) σ (findA (.int .i64 (tg L[i] x)) (mapB (trueM O)) 0)=some (.tup [],hset σ r (.map (mapB (trueM (O++[tg L[i] x]))))):=fun _ _ h=>updM h
   by_cases hm:tg L[i] x∈O
   ·have ha:addN O (tg L[i] x)=O:=if_pos hm
    rw[ha] at ih
    have hd:decide (tg L[i] x∈O)=true:=decide_eq_true hm
    rw[hd] at hlk
    simp -implicitDefEqProofs (maxSteps:=9^9) (disch:=omega) only[go_sem,simprocAttr,tav,hlk]
    refine(ih trivial (j++[.cells (L[i].map (.int .i64))])).castS (by simp) (by simp[upd,ins,subF,lookA,tav])
   ·have ha:addN O (tg L[i] x)=O++[tg L[i] x]:=if_neg hm
    rw[ha] at ih
    have hd:decide (tg L[i] x∈O)=false:=decide_eq_false hm
    rw[hd] at hlk
    replace hup:=fun r σ=>hup r σ hm
    simp -implicitDefEqProofs (maxSteps:=9^9) (disch:=omega) only[go_sem,simprocAttr,tav,hlk,hup]
    refine(ih trivial (j++[.cells (L[i].map (.int .i64))])).castS (by simp) (by simp[upd,ins,subF,lookA,tav])
  ·intro j _
   rw[List.take_length]
   have hfl:(firstsL (L.map fun t=>tg t x)).length≤4294967296:=by
    refine Nat.le_trans (addN_len _ []) ?_
    simp;omega
   have hf0:firstsL (L.map fun t=>tg t x)≠[]:=by
    obtain⟨t,ht⟩:=List.exists_mem_of_ne_nil _ hL
    have:tg t x∈firstsL (L.map fun t=>tg t x):=(addN_mem _ [] _).2 (.inr (List.mem_map.2 ⟨t,ht,rfl⟩))
    exact List.ne_nil_of_mem this
   generalize firstsL (L.map fun t=>tg t x)=O at hfl hf0 hQ hAsc h50⊢
   simp -implicitDefEqProofs (maxSteps:=9^9) (disch:=omega) only[go_sem,simprocAttr]
   have hso:sortL O=O:=sortL_asc hAsc
   rw[hso] at hQ
   refine sortAsc_c O hAsc (List.length_pos_iff.2 hf0) h50 (by rw[hget_at];rfl) fun τ=>?_
   simp only[List.append_assoc,List.cons_append]
   simp -implicitDefEqProofs (maxSteps:=9^9) (disch:=omega) only[go_sem,simprocAttr]
   exact hQ _ _
end Go.Proofs
