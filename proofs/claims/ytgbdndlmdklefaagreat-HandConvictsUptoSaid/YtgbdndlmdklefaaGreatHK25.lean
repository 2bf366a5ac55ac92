/- Texts of a proof: lemmas. -/
import Derived.Test.YtgbdndlmdklefaaGreatHK13
import Derived.Test.YtgbdndlmdklefaaGreatHK18
import Derived.Test.YtgbdndlmdklefaaGreatHK24
import Derived.Test.YtgbdndlmdklefaaGreatHK23
import Derived.Test.YtgbdndlmdklefaaGreatHK16
set_option linter.unusedSimpArgs false
set_option linter.unusedVariables false
set_option maxRecDepth 100000
set_option maxHeartbeats 40000000
namespace Go.Proofs
open Go Go.Mu
variable {S:MC Tryz.prog}
def C9:=jh tI fun _=>some (.bool false)
theorem R4:∀xs v,C9 xs=some v→al S 218 xs v:=by
 refine gB fun n v h=>?_
 simp only[Option.some.injEq] at h;subst h
 refine PvE (Tryz.ah (S:=S) 6 (fun _=>([],[])) fs0 aD) (.bool) Tryz.NQ Tryz.func218 rfl ?_
 intro σ
 simp only[tI]
 simp -implicitDefEqProofs (maxSteps:=9^9) (disch:=omega) only[go_sem,simprocAttr]
def qB(f:FuncId)(xs:List AV):Option AV:=if f=218 then C9 xs else fs0 f xs
theorem rQ{S:MC Tryz.prog}:∀f xs v,qB f xs=some v→al S f xs v:=by
 intro f xs v h
 unfold qB at h
 split at h
 ·rename_i e;subst e;exact R4 _ _ h
 exact aD _ _ _ h
attribute [go_sem] qB C9
theorem RN(x y:Int):al S 188 [.int .i64 x,.int .i64 y] (.bool (decide (x<y))):=by
 refine PvE (Tryz.ah (S:=S) 17 (fun _=>([],[])) qB rQ) (.bool) Tryz.MU Tryz.func188 rfl ?_
 intro σ
 simp -implicitDefEqProofs (maxSteps:=9^9) (disch:=omega) only[go_sem,simprocAttr]
 refine⟨fun h=>by simp[h],fun h=>by simp[h]⟩
def zO:=cW tI tI fun x y=>some (.bool (decide (x<y)))
theorem N6:∀xs v,zO xs=some v→al S 188 xs v:=
 cj fun x y v h=>by simp only[Option.some.injEq] at h;subst h;exact RN x y
def dL(f:FuncId)(xs:List AV):Option AV:=if f=188 then zO xs else qB f xs
theorem cH{S:MC Tryz.prog}:∀f xs v,dL f xs=some v→al S f xs v:=by
 intro f xs v h
 unfold dL at h
 split at h
 ·rename_i e;subst e;exact N6 _ _ h
 exact rQ _ _ _ h
attribute [go_sem] dL zO
def Tryz.kB:Nat→List Nat×List (Nat×List Nat)
 | 4=>([0,0,3,7,15,15,63,127,15,15,527,1807,3855,8191,16383],[(0,[]),(1,[]),(2,[]),(3,[]),(4,[]),(5,[]),(6,[]),(7,[]),(8,[]),(9,[]),(10,[]),(11,[]),(12,[]),(13,[13]),(14,[])])
 | 6=>Tryz.zl 6
 | _=>([],[])
theorem Tryz.J5:Tryz.kB 4=([0,0,3,7,15,15,63,127,15,15,527,1807,3855,8191,16383],[(0,[]),(1,[]),(2,[]),(3,[]),(4,[]),(5,[]),(6,[]),(7,[]),(8,[]),(9,[]),(10,[]),(11,[]),(12,[]),(13,[13]),(14,[])]):=rfl
theorem Tryz.JR:Tryz.kB 6=Tryz.zl 6:=rfl
attribute [go_sem] Tryz.J5 Tryz.JR
theorem _root_.Go.Mu.aj.once{E:Env}(hE:cm E){ro:Option Nat}{c:Code}{k:List Item}{kp:Nat→Bool}{tm sl:List (Nat×AV)}{σ:List aa}{Q:au}
  (hO:dG E (.code c:: .inLoop c::k)=true) (h:ev E ro 100000 (.code c:: .inLoop c::k) ⟨kp,[],sl⟩ σ Q):aj E ro (.code (.loop c)::k) ⟨kp,tm,sl⟩ σ Q:=
 aj.eC (fr:=⟨kp,tm,sl⟩) (.loop (aR hE hO h))
def Asc(zs:List Int):Prop:=∀i (h:i+1<zs.length),zs[i]≤zs[i+1]
theorem KH(zs:List Int)(hs:Asc zs)(hz:0<zs.length)(hn:zs.length≤4294967296){σ:List aa}{r:Nat}(hg:ai σ r=some (.vec 1 (zs.map (.int .i64)))){Q:AV→List aa→Prop}(h:Q (.tup []) σ) :
  ao S 182 [.vec r zs.length,.int .i64 0,.int .i64 zs.length] σ Q:=by
 refine AcE (Tryz.ah (S:=S) 49 Tryz.kB dL cH) Tryz.Cf Tryz.func182 rfl ?_
 simp -implicitDefEqProofs (maxSteps:=9^9) (disch:=omega) only[go_sem,simprocAttr]
 refine aj.kL (Tryz.ah (S:=S) 49 Tryz.kB dL cH) (zs.length-1) (fun _ τ=>τ=σ) (fun i=>[(6,.int .i64 ((i:Int)+1))]) (by kernel_rfl) (by simp[upd,ins,aw,ae]) rfl ?_ ?_
 ·rintro i τ hi rfl ih
  simp -implicitDefEqProofs (maxSteps:=9^9) (disch:=omega) only[go_sem,simprocAttr]
  refine aj.once (Tryz.ah (S:=S) 49 Tryz.kB dL cH) (by kernel_rfl) ?_
  have hi1:i+1<zs.length:=by omega
  have hlt:(tg zs ((i:Int)+1)<tg zs ((i:Int)+1-1))=False:=by
   have h1:=hs i hi1
   have e1:tg zs ((i:Int)+1)=zs[i+1]:=by
    have:((i:Int)+1).toNat=i+1:=by omega
    simp[tg,this,hi1]
   have e0:tg zs ((i:Int)+1-1)=zs[i]:=by
    have:((i:Int)+1-1).toNat=i:=by omega
    simp[tg,this,show i<zs.length by omega]
   rw[e1,e0]
   simp only[eq_iff_iff,iff_false];omega
  simp -implicitDefEqProofs (maxSteps:=9^9) (disch:=omega) only[go_sem,simprocAttr,hg,hlt]
  exact(ih _ rfl).ay rfl (by simp[upd,ins,aw,ae])
 ·rintro τ rfl
  simp -implicitDefEqProofs (maxSteps:=9^9) (disch:=omega) only[go_sem,simprocAttr]
  exact h
def Tryz.jg:Nat→List Nat×List (Nat×List Nat)
 | 5=>([0,0,3,7,15,15,63,127,15,15,527,1807,3855,8191,16383,32767],[(0,[]),(1,[]),(2,[]),(3,[]),(4,[]),(5,[]),(6,[]),(7,[]),(8,[]),(9,[]),(10,[]),(11,[]),(12,[]),(13,[13]),(14,[]),(15,[])])
 | 11=>Tryz.gP 11
 | 16=>Tryz.gP 16
 | 17=>Tryz.gP 17
 | 22=>Tryz.gP 22
 | 23=>Tryz.gP 23
 | _=>([],[])
theorem Tryz.LW:Tryz.jg 5=([0,0,3,7,15,15,63,127,15,15,527,1807,3855,8191,16383,32767],[(0,[]),(1,[]),(2,[]),(3,[]),(4,[]),(5,[]),(6,[]),(7,[]),(8,[]),(9,[]),(10,[]),(11,[]),(12,[]),(13,[13]),(14,[]),(15,[])]):=rfl
theorem Tryz.Gi:Tryz.jg 11=Tryz.gP 11:=rfl
theorem Tryz.IC:Tryz.jg 16=Tryz.gP 16:=rfl
theorem Tryz.Hv:Tryz.jg 17=Tryz.gP 17:=rfl
theorem Tryz.Ik:Tryz.jg 22=Tryz.gP 22:=rfl
theorem Tryz.Gj:Tryz.jg 23=Tryz.gP 23:=rfl
attribute [go_sem] Tryz.LW Tryz.Gi Tryz.IC Tryz.Hv Tryz.Ik Tryz.Gj
theorem fD{σ l:List aa}{r:Nat}{o:aa}(hg:ai σ r=some o):ai (σ++l) r=some o:=by
 have:=aN hg
 unfold ai at *
 rw[List.getElem?_append_left this];exact hg
theorem Asc.at{zs:List Int}(hs:Asc zs){i:Nat}(hi:i+1<zs.length):(tg zs ((i:Int)+1)<tg zs ((i:Int)+1-1))=False:=by
 have h1:=hs i hi
 have e1:tg zs ((i:Int)+1)=zs[i+1]:=by
  have:((i:Int)+1).toNat=i+1:=by omega
  simp[tg,this,hi]
 have e0:tg zs ((i:Int)+1-1)=zs[i]:=by
  have:((i:Int)+1-1).toNat=i:=by omega
  simp[tg,this,show i<zs.length by omega]
 rw[e1,e0]
 simp only[eq_iff_iff,iff_false];omega
theorem JF(zs:List Int)(hs:Asc zs)(hz:0<zs.length)(hn:zs.length≤4294967296){σ:List aa}{r:Nat}(hg:ai σ r=some (.vec 1 (zs.map (.int .i64)))){Q:AV→List aa→Prop}(h:Q (.bool true) σ) :
  ao S 187 [.vec r zs.length,.int .i64 0,.int .i64 zs.length] σ Q:=by
 refine AcE (Tryz.ah (S:=S) 133 Tryz.jg dL cH) Tryz.MI Tryz.func187 rfl ?_
 simp -implicitDefEqProofs (maxSteps:=9^9) (disch:=omega) only[go_sem,simprocAttr]
 refine aj.once (Tryz.ah (S:=S) 133 Tryz.jg dL cH) (by kernel_rfl) ?_
 simp -implicitDefEqProofs (maxSteps:=9^9) (disch:=omega) only[go_sem,simprocAttr]
 refine aj.kL (Tryz.ah (S:=S) 133 Tryz.jg dL cH) (zs.length-1) (fun _ τ=>τ=σ) (fun i=>[(7,.int .i64 ((i:Int)+1))]) (by kernel_rfl) (by simp[upd,ins,aw,ae]) rfl ?_ ?_
 ·rintro i τ hi rfl ih
  have hlt:=hs.at (i:=i) (by omega)
  simp -implicitDefEqProofs (maxSteps:=9^9) (disch:=omega) only[go_sem,simprocAttr,hg,hlt]
  exact(ih _ rfl).ay rfl (by simp[upd,ins,aw,ae])
 ·rintro τ rfl
  simp -implicitDefEqProofs (maxSteps:=9^9) (disch:=omega) only[go_sem,simprocAttr,hg]
  exact h
theorem Asc.le{zs:List Int}(hs:Asc zs):∀(d i:Nat) (h:i+d<zs.length),zs[i]'(by omega)≤zs[i+d]
 | 0,i,h=>Int.le_refl _
 | d+1,i,h=>Int.le_trans (hs.le d i (by omega)) (hs (i+d) (by omega))
theorem Asc.not_lt{zs:List Int}(hs:Asc zs){a b:Int}(h0:0≤a)(hab:a≤b)(hb:b<zs.length):(tg zs b<tg zs a)=False:=by
 obtain⟨i,rfl⟩:=Int.eq_ofNat_of_zero_le h0
 obtain⟨j,rfl⟩:=Int.eq_ofNat_of_zero_le (Int.le_trans h0 hab)
 have hj:j<zs.length:=by omega
 have hi:i<zs.length:=by omega
 have h1:=hs.le (j-i) i (by omega)
 have e:i+(j-i)=j:=by omega
 have h2:zs[i]≤zs[j]:=by simpa only[e] using h1
 have e1:tg zs (j:Int)=zs[j]:=by simp[tg,hj]
 have e0:tg zs (i:Int)=zs[i]:=by simp[tg,hi]
 rw[e1,e0]
 simp only[eq_iff_iff,iff_false];omega
theorem sx(zs:List Int)(hs:Asc zs)(hn:zs.length≤4294967296){a b:Int}(h0:0≤a)(hab:a≤b)(hb:b<zs.length){σ:List aa}{r q:Nat}(hg:ai σ r=some (.vec 1 (zs.map (.int .i64)))){Q:AV→List aa→Prop}(h:Q (.tup [.int .i64 a,.int .i64 b]) σ) :
  ao S 236 [.vec r zs.length,.int .i64 a,.int .i64 b,.ptr q 0] σ Q:=by
 refine AcE (Tryz.ah (S:=S) 28 Tryz.F5 dL cH) Tryz.Nf Tryz.func236 rfl ?_
 have hlt:=hs.not_lt h0 hab hb
 simp -implicitDefEqProofs (maxSteps:=9^9) (disch:=omega) only[go_sem,simprocAttr,hg,hlt]
 exact h
theorem Lc(zs:List Int)(hs:Asc zs)(hn:zs.length≤4294967296){a b d:Int}(h0:0≤a)(hab:a≤b)(hbd:b≤d)(hd:d<zs.length){σ:List aa}{r q:Nat}(hg:ai σ r=some (.vec 1 (zs.map (.int .i64)))){Q:AV→List aa→Prop}(h:Q (.int .i64 b) σ) :
  ao S 223 [.vec r zs.length,.int .i64 a,.int .i64 b,.int .i64 d,.ptr q 0] σ Q:=by
 refine AcE (Tryz.ah (S:=S) 36 (fun _=>([],[])) dL cH) Tryz.Mn Tryz.func223 rfl ?_
 simp -implicitDefEqProofs (maxSteps:=9^9) (disch:=omega) only[go_sem,simprocAttr]
 refine sx zs hs hn h0 hab (by omega) hg ?_
 simp -implicitDefEqProofs (maxSteps:=9^9) (disch:=omega) only[go_sem,simprocAttr]
 refine sx zs hs hn (by omega) hbd hd hg ?_
 simp -implicitDefEqProofs (maxSteps:=9^9) (disch:=omega) only[go_sem,simprocAttr]
 refine sx zs hs hn h0 hab (by omega) hg ?_
 simp -implicitDefEqProofs (maxSteps:=9^9) (disch:=omega) only[go_sem,simprocAttr]
 exact h
theorem Oh(zs:List Int)(hs:Asc zs)(h8:8≤zs.length)(h50:zs.length<50){σ:List aa}{r:Nat}(hg:ai σ r=some (.vec 1 (zs.map (.int .i64)))){Q:AV→List aa→Prop}(h:∀p τ,Q (.tup [.int .i64 p,.int .i64 1]) (σ++τ)) :
  ao S 185 [.vec r zs.length,.int .i64 0,.int .i64 zs.length] σ Q:=by
 refine AcE (Tryz.ah (S:=S) 57 (fun _=>([],[])) dL cH) Tryz.Nv Tryz.func185 rfl ?_
 simp -implicitDefEqProofs (maxSteps:=9^9) (disch:=omega) only[go_sem,simprocAttr]
 have hq:((zs.length:Int)-0).tdiv 4=(zs.length:Int)/4:=by rw[Int.sub_zero];exact Int.tdiv_eq_ediv_of_nonneg (by omega)
 obtain⟨q,eq,q0,q1⟩:∃q:Int,(zs.length:Int)/4=q∧0≤q∧4*q≤zs.length:=⟨_,rfl,by omega,by omega⟩
 rw[hq,eq]
 have w1:IntKind.i64.wrap q=q:=wrap64 (by omega) (by omega)
 have w2:IntKind.i64.wrap (q*1)=q:=by rw[Int.mul_one];exact w1
 have w3:IntKind.i64.wrap (q*2)=q*2:=wrap64 (by omega) (by omega)
 have w4:IntKind.i64.wrap (q*3)=q*3:=wrap64 (by omega) (by omega)
 simp only[w1,w2,w3,w4,Int.zero_add]
 refine Lc zs hs (by omega) q0 (by omega) (by omega) (by omega) (fD hg) ?_
 simp -implicitDefEqProofs (maxSteps:=9^9) (disch:=omega) only[go_sem,simprocAttr]
 exact h _ _
theorem Jg(zs:List Int)(hs:Asc zs)(hz:0<zs.length)(h50:zs.length<50){lim:Int}(hl:lim≠0){σ:List aa}{r:Nat}(hg:ai σ r=some (.vec 1 (zs.map (.int .i64)))){Q:AV→List aa→Prop}(h:∀τ,Q (.tup []) (σ++τ)) :
  ao S 141 [.vec r zs.length,.int .i64 0,.int .i64 zs.length,.int .i64 lim] σ Q:=by
 have h0:Q (.tup []) σ:=by simpa using h []
 have hl':(lim=0)=False:=by simp[hl]
 refine AcE (Tryz.ah (S:=S) 134 Tryz.p7 dL cH) Tryz.DD Tryz.func141 rfl ?_
 simp -implicitDefEqProofs (maxSteps:=9^9) (disch:=omega) only[go_sem,simprocAttr]
 refine aj.once (Tryz.ah (S:=S) 134 Tryz.p7 dL cH) (by kernel_rfl) ?_
 by_cases h12:zs.length≤12
 ·simp -implicitDefEqProofs (maxSteps:=9^9) (disch:=omega) only[go_sem,simprocAttr]
  refine KH zs hs hz (by omega) hg ?_
  simp -implicitDefEqProofs (maxSteps:=9^9) (disch:=omega) only[go_sem,simprocAttr]
  exact h0
 ·simp -implicitDefEqProofs (maxSteps:=9^9) (disch:=omega) only[go_sem,simprocAttr,hl']
  refine Oh zs hs (by omega) h50 hg fun p τ=>?_
  simp -implicitDefEqProofs (maxSteps:=9^9) (disch:=omega) only[go_sem,simprocAttr]
  refine JF zs hs hz (by omega) (fD hg) ?_
  simp -implicitDefEqProofs (maxSteps:=9^9) (disch:=omega) only[go_sem,simprocAttr]
  exact h τ
theorem KD{X:AV→List aa→Prop}{σ:List aa}{v:Option AV}{x:AV}(h:v=some x)(hx:X x σ):cT X σ v:=by subst h;exact hx
theorem On(n:Nat)(h1:1≤n)(h2:n<50):al S 192 [.int .u64 n] (.int .i64 ((Nat.log2 n+1:Nat):Int)):=by
 refine PvE (Tryz.ah (S:=S) 25 (fun _=>([],[])) fs0 aD) (.int) Tryz.L7 Tryz.func192 rfl ?_
 intro σ
 simp -implicitDefEqProofs (maxSteps:=9^9) (disch:=omega) only[go_sem,simprocAttr]
 refine KD (x:= .int .u8 ((Nat.log2 n+1:Nat):Int)) ?_ ?_
 ·have hw:IntKind.u8.wrap (n:Int)=n:=by unfold IntKind.wrap;simp[IntKind.signed,IntKind.bits];omega
  rw[hw,if_pos (by omega),Int.toNat_natCast]
  rcases(by omega:n=1∨n=2∨n=3∨n=4∨n=5∨n=6∨n=7∨n=8∨n=9∨n=10∨n=11∨n=12∨n=13∨n=14∨n=15∨n=16∨n=17∨n=18∨n=19∨n=20∨n=21∨n=22∨n=23∨n=24∨n=25∨n=26∨n=27∨n=28∨n=29∨n=30∨n=31∨n=32∨n=33∨n=34∨n=35∨n=36∨n=37∨n=38∨n=39∨n=40∨n=41∨n=42∨n=43∨n=44∨n=45∨n=46∨n=47∨n=48∨n=49) with rfl | rfl | rfl | rfl | rfl | rfl | rfl | rfl | rfl | rfl | rfl | rfl | rfl | rfl | rfl | rfl | rfl | rfl | rfl | rfl | rfl | rfl | rfl | rfl | rfl | rfl | rfl | rfl | rfl | rfl | rfl | rfl | rfl | rfl | rfl | rfl | rfl | rfl | rfl | rfl | rfl | rfl | rfl | rfl | rfl | rfl | rfl | rfl | rfl<;> rfl
 ·have hl:Nat.log2 n+1<10:=by
   have:Nat.log2 n<6:=(Nat.log2_lt (by omega)).2 (by omega)
   omega
  simp -implicitDefEqProofs (maxSteps:=9^9) (disch:=omega) only[go_sem,simprocAttr]
theorem DU(n:Nat)(h1:1≤n)(h2:n<50):al S 142 [.int .u64 n] (.int .i64 ((Nat.log2 n+1:Nat):Int)):=by
 refine PvE (Tryz.ah (S:=S) 8 (fun _=>([],[])) fs0 aD) (.int) Tryz.MB Tryz.func142 rfl ?_
 intro σ
 simp -implicitDefEqProofs (maxSteps:=9^9) (disch:=omega) only[go_sem,simprocAttr]
 refine On n h1 h2 _ _ ?_
 simp -implicitDefEqProofs (maxSteps:=9^9) (disch:=omega) only[go_sem,simprocAttr]
theorem wz(zs:List Int)(hs:Asc zs)(hz:0<zs.length)(h50:zs.length<50){σ:List aa}{r:Nat}(hg:ai σ r=some (.vec 1 (zs.map (.int .i64)))){Q:AV→List aa→Prop}(h:∀τ,Q (.tup []) (σ++τ)) :
  ao S 88 [.vec r zs.length] σ Q:=by
 refine AcE (Tryz.ah (S:=S) 11 (fun _=>([],[])) dL cH) Tryz.Js Tryz.func88 rfl ?_
 have hw:IntKind.u64.wrap (zs.length:Int)=zs.length:=by unfold IntKind.wrap;simp[IntKind.signed,IntKind.bits];omega
 simp -implicitDefEqProofs (maxSteps:=9^9) (disch:=omega) only[go_sem,simprocAttr]
 rw[hw]
 refine DU zs.length hz h50 _ _ ?_
 simp -implicitDefEqProofs (maxSteps:=9^9) (disch:=omega) only[go_sem,simprocAttr]
 refine Jg zs hs hz h50 (by omega) hg fun τ=>?_
 simp -implicitDefEqProofs (maxSteps:=9^9) (disch:=omega) only[go_sem,simprocAttr]
 exact h τ
def dK(l:List Int):List (Int×Bool):=l.map fun k=>(k,true)
theorem uz{k:Int}:∀{l:List Int} {i:Nat},k∈l→∃j,en k (dK l) i=some (j,true)
 | [],_,h=>by simp at h
 | x::l,i,h=>by
  simp only[dK,List.map_cons,en]
  by_cases e:k=x
  ·exact⟨i,by rw[if_pos e]⟩
  ·rw[if_neg e]
   exact uz (by rcases List.mem_cons.1 h with h | h;exact absurd h e;exact h)
theorem kJ{k:Int}:∀{l:List Int} {i:Nat},k∉l→en k (dK l) i=none
 | [],_,h=>rfl
 | x::l,i,h=>by
  simp only[dK,List.map_cons,en]
  rw[if_neg (fun e=>h (by simp[e]))]
  exact kJ fun hm=>h (List.mem_cons_of_mem _ hm)
theorem Mr{l:List Int}{k:Int}{σ:List aa}:gy false (.bool false) σ (bw (.int .i64 k) (fo (dK l)) 0)=some (.bool (decide (k∈l)),σ):=by
 rw[Nk]
 unfold fR
 by_cases h:k∈l
 ·obtain⟨j,hj⟩:=uz (i:=0) h
  rw[hj];simp[h]
 ·rw[kJ h];simp[h]
theorem P3{l:List Int}{k:Int}{r:Nat}{σ:List aa}(h:k∉l):fL r (fo (dK l)) (.int .i64 k) (.bool true) σ (bw (.int .i64 k) (fo (dK l)) 0)=some (.tup [],ax σ r (.map (fo (dK (l++[k]))))):=by
 rw[RZ]
 unfold eQ
 rw[kJ h]
 simp[dK]
def jR(out:List Int)(n:Int):List Int:=if n∈out then out else out++[n]
def aQ(l:List Int):List Int:=l.foldl jR []
def iB(l:List Int):List Int:=l.mergeSort fun x y=>decide (x≤y)
theorem lR(l:List Int):∀out,(l.foldl jR out).length≤out.length+l.length:=by
 induction l with
 | nil=>intro out;simp
 | cons x l ih=>
  intro out
  refine Nat.le_trans (ih _) ?_
  simp only[jR,List.length_cons]
  split
  ·omega
  ·simp;omega
theorem rJ(l:List Int):∀out x,x∈l.foldl jR out↔x∈out∨x∈l:=by
 induction l with
 | nil=>intro out x;simp
 | cons y l ih=>
  intro out x
  rw[List.foldl_cons,ih]
  unfold jR
  by_cases h:y∈out
  ·rw[if_pos h];simp only[List.mem_cons]
   constructor
   ·rintro(h1 | h1);exact .inl h1;exact .inr (.inr h1)
   ·rintro(h1 | rfl | h1);exact .inl h1;exact .inl h;exact .inr h1
  ·rw[if_neg h];simp only[List.mem_cons,List.mem_append,List.not_mem_nil,or_false]
   constructor
   ·rintro((h1 | h1) | h1);exact .inl h1;exact .inr (.inl h1);exact .inr (.inr h1)
   ·rintro(h1 | h1 | h1);exact .inl (.inl h1);exact .inl (.inr h1);exact .inr h1
theorem HY(l:List Int):(iB l).length=l.length:=List.length_mergeSort _
def dq(e:Ear)(x:Int):Int:=if 0≤x∧x≤e.tones.length-1 then 0 else 3
def bC(e:Ear)(x:Int):List Int×Int:=
 if(c8 e (dq e x)).2=0 then(iB (aQ ((aF e).map fun t=>tg t x)),0) else([],(c8 e (dq e x)).2)
theorem KC{e:Ear}{w:Int}(h:(c8 e w).2=0):ck e=0∧w=0∧aF e≠[]∧c8 e w=(aF e,0):=qC h
theorem Asc.pairwise{zs:List Int}(hs:Asc zs):zs.Pairwise (· ≤·):=by
 rw[List.pairwise_iff_getElem]
 intro i j hi hj hij
 have h:=hs.le (j-i) i (by omega)
 have e:i+(j-i)=j:=by omega
 simpa only[e] using h
theorem qc{zs:List Int}(hs:Asc zs):iB zs=zs:=List.mergeSort_of_pairwise (hs.pairwise.imp fun h=>by simpa using h)
theorem mH:∀(l out:List Int),(out++l).Nodup→l.foldl jR out=out++l
 | [],out,_=>by simp
 | x::l,out,h=>by
  have hx:x∉out:=fun hm=>by
   have:=(List.nodup_append.1 h).2.2 x hm x (by simp)
   exact this rfl
  rw[List.foldl_cons,jR,if_neg hx,mH l (out++[x]) (by simpa using h)]
  simp
theorem xV(P:Nat→Bool)(a:Int):∀l:List Nat,l.Pairwise (· < ·)→((l.flatMap fun k=>if P k then[a+(k:Int)] else[]).Pairwise (· < ·))∧(∀x∈(l.flatMap fun k=>if P k then[a+(k:Int)] else[]),∃k∈l,x=a+k)∧(l.flatMap fun k=>if P k then[a+(k:Int)] else[]).length≤l.length
 | [],_=>by simp
 | k::l,h=>by
  obtain⟨h1,h2⟩:=List.pairwise_cons.1 h
  obtain⟨i1,i2,i3⟩:=xV P a l h2
  rw[List.flatMap_cons]
  by_cases hp:P k=true
  ·rw[if_pos hp]
   refine⟨List.pairwise_cons.2 ⟨fun y hy=>?_,i1⟩,fun x hx=>?_,by simp only[List.length_append,List.length_cons,List.length_nil];omega⟩
   ·obtain⟨m,hm,rfl⟩:=i2 y hy
    have:=h1 m hm;omega
   ·rcases List.mem_cons.1 hx with rfl | hx
    ·exact⟨k,by simp,rfl⟩
    ·obtain⟨m,hm,rfl⟩:=i2 x hx;exact⟨m,by simp[hm],rfl⟩
  ·rw[if_neg hp]
   refine⟨by rw[List.nil_append];exact i1,fun x hx=>?_,by simp only[List.nil_append,List.length_cons];omega⟩
   obtain⟨m,hm,rfl⟩:=i2 x (by simpa using hx)
   exact⟨m,by simp[hm],rfl⟩
theorem vk{e:Ear}(he:OkE e)(h1:e.tones.length=1):Asc (aQ ((aF e).map fun t=>tg t 0))∧(aQ ((aF e).map fun t=>tg t 0)).length<50:=by
 have hw:=he.tone (e.tones.getD 0 default) (by rw[List.getD_eq_getElem?_getD,List.getElem?_eq_getElem (by omega)];exact List.getElem_mem _)
 generalize hww:e.tones.getD 0 default=w at hw
 have hT:(aF e).map (fun t=>tg t 0)=(List.range (w.hi-w.lo+1).toNat).flatMap fun(k:Nat)=>if(e.rds.all fun r=>isR r e.slack (bG [0,0,0] 0 (w.lo+k))) then[w.lo+(k:Int)] else[]:=by
  unfold aF
  rw[h1]
  simp only[dY,hww,List.map_flatMap]
  congr 1
  funext k
  refine(?_:List.map (fun t=>tg t 0) (if(e.rds.all fun r=>isR r e.slack (bG [0,0,0] 0 (w.lo+k)))=true then[bG [0,0,0] 0 (w.lo+k)] else[])=_)
  by_cases hP:(e.rds.all fun r=>isR r e.slack (bG [0,0,0] 0 (w.lo+k)))=true
  ·rw[if_pos hP,if_pos hP];rfl
  ·rw[if_neg hP,if_neg hP];rfl
 obtain⟨i1,_,i3⟩:=xV (fun k=>e.rds.all fun r=>isR r e.slack (bG [0,0,0] 0 (w.lo+k))) w.lo (List.range (w.hi-w.lo+1).toNat) List.pairwise_lt_range
 rw[hT]
 generalize ((List.range (w.hi-w.lo+1).toNat).flatMap fun(k:Nat)=>if(e.rds.all fun r=>isR r e.slack (bG [0,0,0] 0 (w.lo+k))) then[w.lo+(k:Int)] else[])=L at i1 i3⊢
 have hf:aQ L=L:=by
  have:=mH L [] (by rw[List.nil_append];exact i1.imp fun h=>by omega)
  simpa[aQ] using this
 rw[hf]
 refine⟨fun i hi=>?_,?_⟩
 ·have:=(List.pairwise_iff_getElem.1 i1) i (i+1) (by omega) hi (by omega)
  omega
 ·simp at i3;omega
theorem Fp(e:Ear)(x:Int)(ht1:e.tones.length≤1)(h1:e.tones.length≤4294967296)(h2:e.rds.length≤4294967296):al S 126 [e.av,.int .i64 x] (.tup [.list .no 1 ((bC e x).1.map (.int .i64)),.int .i64 (bC e x).2]):=by
 by_cases hk:(c8 e (dq e x)).2=0
 ·obtain⟨hc,hw,hn,hke⟩:=qC hk
  have he:=dQ hc
  have htl:=eo he
  have hx:0≤x∧x≤2:=by
   unfold dq at hw
   split at hw
   ·have:=he.len;omega
   ·cases hw
  have hv:bC e x=(iB (aQ ((aF e).map fun t=>tg t x)),0):=by unfold bC;rw[if_pos hk]
  rw[hv]
  intro σ Q hq
  have hQ:Q (.tup [.list .no 1 ((iB (aQ ((aF e).map fun t=>tg t x))).map (.int .i64)),.int .i64 0]) σ:=hq
  refine ao.clean ?_
  refine ao.yl ?_
  refine AcE (Tryz.ah (S:=S) 48 Tryz.nv fs8 js) Tryz.xn Tryz.func126 rfl ?_
  have hxl:(x≤(e.tones.length:Int)-1)=True:=by
   unfold dq at hw
   split at hw
   ·rename_i h;exact eq_true h.2
   ·cases hw
  rw[hw] at hke
  simp only[Ear.av]
  simp -implicitDefEqProofs (maxSteps:=9^9) (disch:=omega) only[go_sem,reduceCtorEq,Nat.reduceAdd,Nat.reduceSub,Nat.reduceMul,Nat.reduceLT,Nat.reduceLeDiff,Nat.reduceEqDiff,Nat.reduceBEq,Int.reduceToNat,Int.reduceLT,Int.reduceLE,Int.reduceEq,Int.reduceNeg,Int.reduceAdd,Int.reduceSub,Int.reduceMul,↓reduceIte,Int.reduceBEq,Int.reduceBNe,hke,hxl,eI]
  refine aj.pQ 9 1 (sz0:=0) rfl (by simp[ae]) ?_
  simp only[ins,↓reduceIte,List.append_assoc,List.cons_append,List.nil_append,List.length_append,List.length_cons,List.length_nil,Nat.zero_add,Nat.reduceEqDiff]
  obtain⟨hAsc,h50⟩: Asc (aQ ((aF e).map fun t=>tg t x))∧(aQ ((aF e).map fun t=>tg t x)).length<50:=by
   have hx0:x=0:=by
    unfold dq at hw
    split at hw
    ·omega
    ·cases hw
   rw[hx0]
   refine vk he ?_
   unfold dq at hw
   split at hw
   ·omega
   ·cases hw
  have hL:aF e≠[]:=hn
  have h3:∀t∈aF e,t.length=3:=fun t ht=>(ei he t ht).1
  clear hq hv hke hk hc he
  generalize aF e=L at hL h3 htl hQ hAsc h50⊢
  refine aj.bE (Tryz.ah (S:=S) 48 Tryz.nv fs8 js) L.length (fun _=>True) (fun i=>[(9,.vec (σ.length+2) (aQ ((L.take i).map fun t=>tg t x)).length),(27,.int .i64 i)]) (fun i j=>σ++(.cells e.cells:: .map (fo (dK (aQ ((L.take i).map fun t=>tg t x)))):: .vec 1 ((aQ ((L.take i).map fun t=>tg t x)).map (.int .i64))::j)) [] (by kernel_rfl) (by simp[Ear.cells,aQ,dK,fo]) (by simp[upd,ins,aw,ae,aQ]) trivial ?_ ?_
  ·intro i j hi _ ih
   have hmi:L[i]∈L:=List.getElem_mem hi
   have h3i:=h3 _ hmi
   have hstep:aQ ((L.take (i+1)).map fun t=>tg t x)=jR (aQ ((L.take i).map fun t=>tg t x)) (tg L[i] x):=by
    unfold aQ;rw[List.take_succ_eq_append_getElem hi,List.map_append,List.foldl_append];rfl
   rw[hstep] at ih
   have hle:(aQ ((L.take i).map fun t=>tg t x)).length≤i:=by
    refine Nat.le_trans (lR _ []) ?_
    simp;omega
   generalize aQ ((L.take i).map fun t=>tg t x)=O at hle ih⊢
   clear hstep
   have hlk:∀σ,gy false (.bool false) σ (bw (.int .i64 (tg L[i] x)) (fo (dK O)) 0)=some (.bool (decide (tg L[i] x∈O)),σ):=fun _=>Mr
   have hup:∀r σ,tg L[i] x∉O→fL r (fo (dK O)) (.int .i64 (tg L[i] x)) (.bool true) σ (bw (.int .i64 (tg L[i] x)) (fo (dK O)) 0)=some (.tup [],ax σ r (.map (fo (dK (O++[tg L[i] x]))))):=fun _ _ h=>P3 h
   by_cases hm:tg L[i] x∈O
   ·have ha:jR O (tg L[i] x)=O:=if_pos hm
    rw[ha] at ih
    have hd:decide (tg L[i] x∈O)=true:=decide_eq_true hm
    rw[hd] at hlk
    simp -implicitDefEqProofs (maxSteps:=9^9) (disch:=omega) only[go_sem,reduceCtorEq,Nat.reduceAdd,Nat.reduceSub,Nat.reduceMul,Nat.reduceLT,Nat.reduceLeDiff,Nat.reduceEqDiff,Nat.reduceBEq,Int.reduceToNat,Int.reduceLT,Int.reduceLE,Int.reduceEq,Int.reduceNeg,Int.reduceAdd,Int.reduceSub,Int.reduceMul,↓reduceIte,Int.reduceBEq,Int.reduceBNe,tav,hlk]
    refine(ih trivial (j++[.cells (L[i].map (.int .i64))])).ay (by simp) (by simp[upd,ins,aw,ae,tav])
   ·have ha:jR O (tg L[i] x)=O++[tg L[i] x]:=if_neg hm
    rw[ha] at ih
    have hd:decide (tg L[i] x∈O)=false:=decide_eq_false hm
    rw[hd] at hlk
    replace hup:=fun r σ=>hup r σ hm
    simp -implicitDefEqProofs (maxSteps:=9^9) (disch:=omega) only[go_sem,reduceCtorEq,Nat.reduceAdd,Nat.reduceSub,Nat.reduceMul,Nat.reduceLT,Nat.reduceLeDiff,Nat.reduceEqDiff,Nat.reduceBEq,Int.reduceToNat,Int.reduceLT,Int.reduceLE,Int.reduceEq,Int.reduceNeg,Int.reduceAdd,Int.reduceSub,Int.reduceMul,↓reduceIte,Int.reduceBEq,Int.reduceBNe,tav,hlk,hup]
    refine(ih trivial (j++[.cells (L[i].map (.int .i64))])).ay (by simp) (by simp[upd,ins,aw,ae,tav])
  ·intro j _
   rw[List.take_length]
   have hfl:(aQ (L.map fun t=>tg t x)).length≤4294967296:=by
    refine Nat.le_trans (lR _ []) ?_
    simp;omega
   have hf0:aQ (L.map fun t=>tg t x)≠[]:=by
    obtain⟨t,ht⟩:=List.exists_mem_of_ne_nil _ hL
    have:tg t x∈aQ (L.map fun t=>tg t x):=(rJ _ [] _).2 (.inr (List.mem_map.2 ⟨t,ht,rfl⟩))
    exact List.ne_nil_of_mem this
   generalize aQ (L.map fun t=>tg t x)=O at hfl hf0 hQ hAsc h50⊢
   simp -implicitDefEqProofs (maxSteps:=9^9) (disch:=omega) only[go_sem,reduceCtorEq,Nat.reduceAdd,Nat.reduceSub,Nat.reduceMul,Nat.reduceLT,Nat.reduceLeDiff,Nat.reduceEqDiff,Nat.reduceBEq,Int.reduceToNat,Int.reduceLT,Int.reduceLE,Int.reduceEq,Int.reduceNeg,Int.reduceAdd,Int.reduceSub,Int.reduceMul,↓reduceIte,Int.reduceBEq,Int.reduceBNe]
   have hso:iB O=O:=qc hAsc
   rw[hso] at hQ
   refine wz O hAsc (List.length_pos_iff.2 hf0) h50 (by rw[aZ];rfl) fun τ=>?_
   simp only[List.append_assoc,List.cons_append]
   simp -implicitDefEqProofs (maxSteps:=9^9) (disch:=omega) only[go_sem,reduceCtorEq,Nat.reduceAdd,Nat.reduceSub,Nat.reduceMul,Nat.reduceLT,Nat.reduceLeDiff,Nat.reduceEqDiff,Nat.reduceBEq,Int.reduceToNat,Int.reduceLT,Int.reduceLE,Int.reduceEq,Int.reduceNeg,Int.reduceAdd,Int.reduceSub,Int.reduceMul,↓reduceIte,Int.reduceBEq,Int.reduceBNe]
   refine⟨_,0,σ.length+2,1,O.map (.int .i64),rfl,by simp,by rw[aZ];rfl,_,_,fI,dI.refl _,?_,hQ⟩
   exact(Plain.tup (by simp;exact⟨Plain.ints,.int⟩)) _
 ·have hv:bC e x=([],(c8 e (dq e x)).2):=by unfold bC;rw[if_neg hk]
  rw[hv]
  refine PvE (Tryz.ah (S:=S) 48 Tryz.nv fs8 js) (.tup (by simp;exact⟨Plain.ints (xs:=[]),.int⟩)) Tryz.xn Tryz.func126 rfl ?_
  intro σ
  simp only[dq] at hk⊢
  have hk':¬(c8 ⟨e.slack,e.tones,e.rds⟩ (if 0≤x∧x≤(e.tones.length:Int)-1 then 0 else 3)).2=0:=hk
  simp only[Ear.av]
  simp -implicitDefEqProofs (maxSteps:=9^9) (disch:=omega) only[go_sem,reduceCtorEq,Nat.reduceAdd,Nat.reduceSub,Nat.reduceMul,Nat.reduceLT,Nat.reduceLeDiff,Nat.reduceEqDiff,Nat.reduceBEq,Int.reduceToNat,Int.reduceLT,Int.reduceLE,Int.reduceEq,Int.reduceNeg,Int.reduceAdd,Int.reduceSub,Int.reduceMul,↓reduceIte,Int.reduceBEq,Int.reduceBNe,hk',eI]
  first | done | simp
theorem I2(e:Ear)(x:Int)(ht1:e.tones.length≤1)(h1:e.tones.length≤4294967296)(h2:e.rds.length≤4294967296)(hk:(c8 e (dq e x)).2=0){σ:List aa}{Q:AV→List aa→Prop}
  (hq:∀mm j,Q (.tup [.vec (σ.length+2) (bC e x).1.length,.int .i64 0]) (σ++(.cells e.cells:: .map mm:: .vec 1 ((bC e x).1.map (.int .i64))::j))):ao S 126 [e.av,.int .i64 x] σ Q:=by
 ·obtain⟨hc,hw,hn,hke⟩:=qC hk
  have he:=dQ hc
  have htl:=eo he
  have hx:0≤x∧x≤2:=by
   unfold dq at hw
   split at hw
   ·have:=he.len;omega
   ·cases hw
  have hv:bC e x=(iB (aQ ((aF e).map fun t=>tg t x)),0):=by unfold bC;rw[if_pos hk]
  rw[hv] at hq
  have hQ:∀mm j,Q (.tup [.vec (σ.length+2) (iB (aQ ((aF e).map fun t=>tg t x))).length,.int .i64 0]) (σ++(.cells e.cells:: .map mm:: .vec 1 ((iB (aQ ((aF e).map fun t=>tg t x))).map (.int .i64))::j)):=hq
  refine AcE (Tryz.ah (S:=S) 48 Tryz.nv fs8 js) Tryz.xn Tryz.func126 rfl ?_
  have hxl:(x≤(e.tones.length:Int)-1)=True:=by
   unfold dq at hw
   split at hw
   ·rename_i h;exact eq_true h.2
   ·cases hw
  rw[hw] at hke
  simp only[Ear.av]
  simp -implicitDefEqProofs (maxSteps:=9^9) (disch:=omega) only[go_sem,simprocAttr,hke,hxl,eI]
  refine aj.pQ 9 1 (sz0:=0) rfl (by simp[ae]) ?_
  simp only[ins,↓reduceIte,List.append_assoc,List.cons_append,List.nil_append,List.length_append,List.length_cons,List.length_nil,Nat.zero_add,Nat.reduceEqDiff]
  obtain⟨hAsc,h50⟩: Asc (aQ ((aF e).map fun t=>tg t x))∧(aQ ((aF e).map fun t=>tg t x)).length<50:=by
   have hx0:x=0:=by
    unfold dq at hw
    split at hw
    ·omega
    ·cases hw
   rw[hx0]
   refine vk he ?_
   unfold dq at hw
   split at hw
   ·omega
   ·cases hw
  have hL:aF e≠[]:=hn
  have h3:∀t∈aF e,t.length=3:=fun t ht=>(ei he t ht).1
  clear hq hv hke hk hc he
  generalize aF e=L at hL h3 htl hQ hAsc h50⊢
  refine aj.bE (Tryz.ah (S:=S) 48 Tryz.nv fs8 js) L.length (fun _=>True) (fun i=>[(9,.vec (σ.length+2) (aQ ((L.take i).map fun t=>tg t x)).length),(27,.int .i64 i)]) (fun i j=>σ++(.cells e.cells:: .map (fo (dK (aQ ((L.take i).map fun t=>tg t x)))):: .vec 1 ((aQ ((L.take i).map fun t=>tg t x)).map (.int .i64))::j)) [] (by kernel_rfl) (by simp[Ear.cells,aQ,dK,fo]) (by simp[upd,ins,aw,ae,aQ]) trivial ?_ ?_
  ·intro i j hi _ ih
   have hmi:L[i]∈L:=List.getElem_mem hi
   have h3i:=h3 _ hmi
   have hstep:aQ ((L.take (i+1)).map fun t=>tg t x)=jR (aQ ((L.take i).map fun t=>tg t x)) (tg L[i] x):=by
    unfold aQ;rw[List.take_succ_eq_append_getElem hi,List.map_append,List.foldl_append];rfl
   rw[hstep] at ih
   have hle:(aQ ((L.take i).map fun t=>tg t x)).length≤i:=by
    refine Nat.le_trans (lR _ []) ?_
    simp;omega
   generalize aQ ((L.take i).map fun t=>tg t x)=O at hle ih⊢
   clear hstep
   have hlk:∀σ,gy false (.bool false) σ (bw (.int .i64 (tg L[i] x)) (fo (dK O)) 0)=some (.bool (decide (tg L[i] x∈O)),σ):=fun _=>Mr
   have hup:∀r σ,tg L[i] x∉O→fL r (fo (dK O)) (.int .i64 (tg L[i] x)) (.bool true) σ (bw (.int .i64 (tg L[i] x)) (fo (dK O)) 0)=some (.tup [],ax σ r (.map (fo (dK (O++[tg L[i] x]))))):=fun _ _ h=>P3 h
   by_cases hm:tg L[i] x∈O
   ·have ha:jR O (tg L[i] x)=O:=if_pos hm
    rw[ha] at ih
    have hd:decide (tg L[i] x∈O)=true:=decide_eq_true hm
    rw[hd] at hlk
    simp -implicitDefEqProofs (maxSteps:=9^9) (disch:=omega) only[go_sem,simprocAttr,tav,hlk]
    refine(ih trivial (j++[.cells (L[i].map (.int .i64))])).ay (by simp) (by simp[upd,ins,aw,ae,tav])
   ·have ha:jR O (tg L[i] x)=O++[tg L[i] x]:=if_neg hm
    rw[ha] at ih
    have hd:decide (tg L[i] x∈O)=false:=decide_eq_false hm
    rw[hd] at hlk
    replace hup:=fun r σ=>hup r σ hm
    simp -implicitDefEqProofs (maxSteps:=9^9) (disch:=omega) only[go_sem,simprocAttr,tav,hlk,hup]
    refine(ih trivial (j++[.cells (L[i].map (.int .i64))])).ay (by simp) (by simp[upd,ins,aw,ae,tav])
  ·intro j _
   rw[List.take_length]
   have hfl:(aQ (L.map fun t=>tg t x)).length≤4294967296:=by
    refine Nat.le_trans (lR _ []) ?_
    simp;omega
   have hf0:aQ (L.map fun t=>tg t x)≠[]:=by
    obtain⟨t,ht⟩:=List.exists_mem_of_ne_nil _ hL
    have:tg t x∈aQ (L.map fun t=>tg t x):=(rJ _ [] _).2 (.inr (List.mem_map.2 ⟨t,ht,rfl⟩))
    exact List.ne_nil_of_mem this
   generalize aQ (L.map fun t=>tg t x)=O at hfl hf0 hQ hAsc h50⊢
   simp -implicitDefEqProofs (maxSteps:=9^9) (disch:=omega) only[go_sem,simprocAttr]
   have hso:iB O=O:=qc hAsc
   rw[hso] at hQ
   refine wz O hAsc (List.length_pos_iff.2 hf0) h50 (by rw[aZ];rfl) fun τ=>?_
   simp only[List.append_assoc,List.cons_append]
   simp -implicitDefEqProofs (maxSteps:=9^9) (disch:=omega) only[go_sem,simprocAttr]
   exact hQ _ _
end Go.Proofs
