/- Texts of a proof: lemmas. -/
import Derived.Test.YtgbdndlmdklefaaGreatHK25
import Derived.Test.YtgbdndlmdklefaaGreatHK17
import Derived.Test.YtgbdndlmdklefaaGreatHK26
import Derived.Test.YtgbdndlmdklefaaGreatHK22
set_option linter.unusedSimpArgs false
set_option linter.unusedVariables false
set_option maxRecDepth 100000
set_option maxHeartbeats 40000000
namespace Go.Proofs
open Go Go.Mu
variable {S:MC Tryz.prog}
def CG:=jk tI tI tI fun n lo hi=>some (.bool (decide (lo≤n∧n≤hi)))
theorem QZ:∀xs v,CG xs=some v→al S 99 xs v:=by
 refine gM fun n lo hi v h=>?_
 simp only[Option.some.injEq] at h;subst h
 refine PvE (Tryz.ah (S:=S) 15 (fun _=>([],[])) fs0 aD) (.bool) Tryz.P7 Tryz.func99 rfl ?_
 intro σ
 simp only[tI]
 simp -implicitDefEqProofs (maxSteps:=9^9) (disch:=omega) only[go_sem,simprocAttr]
 refine⟨fun h1=>⟨fun h2=>?_,fun h2=>?_⟩,fun h1=>?_⟩<;> simp[h1, *]
def kh(f:FuncId)(xs:List AV):Option AV:=if f=99 then CG xs else fs8 f xs
theorem iJ{S:MC Tryz.prog}:∀f xs v,kh f xs=some v→al S f xs v:=by
 intro f xs v h
 unfold kh at h
 split at h
 ·rename_i e;subst e;exact QZ _ _ h
 exact js _ _ _ h
attribute [go_sem] kh CG
def bS(x:Tn)(hands:Int):List Int×Int:=
 if¬(0≤x.day∧x.day≤60) then([],1) else if¬(-1≤x.hand∧x.hand≤hands-1) then([],3) else if¬(1≤x.due∧x.due≤100000) then([],1)
 else if ck x.ear≠0 then([],ck x.ear) else if 1<x.ear.tones.length then([],6) else((bC x.ear 0).1.map (· - x.due),(bC x.ear 0).2)
theorem _root_.Go.Mu.ao.wkW{P:Program}{S:MC P}{f:FuncId}{args:List AV}{σ:List aa}{Q:AV→List aa→Prop}(h:ao S f args σ fun v σ'=>∃v',dI v v'∧Q v' σ'):ao S f args σ Q:=
 ⟨h.1,fun M hM K w V cargs kd cs hR hO hV=>M.bind (h.2 M hM K w V cargs kd cs hR hO hV) fun g' w' V' ⟨fr,v,σ',K',e1,e2,e3,hl,⟨v',hw,hq⟩,r1,r2,r3⟩=>M.ret ⟨fr,v',σ',K',e1,e2,e3,hl.mono fun c hc=>hw _ _ _ hc,hq,r1,r2,r3⟩⟩
theorem LY{sz:Nat}:dI (.list .full sz []) (ar []):=fun K n c h=>by
 cases h with
 | list _ _ _ a cap f hl ht ha hs h1 h=>exact .list .no 1 [] a cap f hl trivial (fun h=>absurd rfl h) (fun i hi=>by simp at hi) (fun i j hi=>by simp at hi) (fun i j hi=>by simp at hi)
theorem tA{e:Ear}(hk:ck e=0)(ha:(c8 e (dq e 0)).2=0)(ht:e.tones.length≤1):(∀y∈(bC e 0).1, -1000000≤y∧y≤1000000)∧(bC e 0).1.length≤1000000:=by
 have he:=dQ hk
 have hv:(bC e 0).1=iB (aQ ((aF e).map fun t=>tg t 0)):=by unfold bC;rw[if_pos ha]
 rw[hv]
 refine⟨fun y hy=>?_,?_⟩
 ·unfold iB aQ at hy
  rw[List.mem_mergeSort,rJ] at hy
  rcases hy with hy | hy
  ·simp at hy
  ·obtain⟨t,ht',rfl⟩:=List.mem_map.1 hy
   obtain⟨h3,hs⟩:=ei he t ht'
   match t,h3 with
   | [a,b,c],_=>
    have:=hs a (by simp)
    simp[tg];omega
 ·rw[HY]
  refine Nat.le_trans (lR _ []) ?_
  have:=eo he
  simp;omega
theorem Rp(day hand due sl:Int)(ts:List Rng)(rs:List Rd)(hands:Int)(hh:0≤hands∧hands≤1000000)(h1:ts.length≤1000000)(h2:rs.length≤1000000)(c1:0≤day∧day≤60)(c2: -1≤hand∧hand≤hands-1)(c3:1≤due∧due≤100000)
  (c4:ck ⟨sl,ts,rs⟩= 0) (c5:¬1<ts.length) (hk:(c8 ⟨sl,ts,rs⟩ (dq ⟨sl,ts,rs⟩ 0)).2=0) (hb:∀y∈(bC ⟨sl,ts,rs⟩ 0).1, -1000000≤y∧y≤1000000) (hl:(bC ⟨sl,ts,rs⟩ 0).1.length≤1000000) {σ:List aa} {Q:AV→List aa→Prop} (hQ:∀σ',Q (.tup [ar ((bC ⟨sl,ts,rs⟩ 0).1.map (· - due)),.int .i64 0]) σ') :
  ao S 117 [.agg [.int .i64 day,.int .i64 hand,.int .i64 due,.int .i64 sl,.list .no 2 (ts.map Rng.av),.list .no 6 (rs.map Rd.av)],.int .i64 hands] σ Q:=by
 have hw:IntKind.i64.wrap (hands-1)=hands-1:=wrap64 (by omega) (by omega)
 have d1:decide (0≤day∧day≤60)=true:=decide_eq_true c1
 have d2:decide (-1≤hand∧hand≤hands-1)=true:=decide_eq_true c2
 have d3:decide (1≤due∧due≤100000)=true:=decide_eq_true c3
 have d5:((1:Int)<ts.length)=False:=by simp;omega
 refine ao.yl ?_
 refine AcE (Tryz.ah (S:=S) 60 Tryz.pe kh iJ) Tryz.DL Tryz.func117 rfl ?_
 simp -implicitDefEqProofs (maxSteps:=9^9) (disch:=omega) only[go_sem,simprocAttr,d1,d2,d3,hw,c4,d5]
 refine I2 ⟨sl,ts,rs⟩ 0 (by simp only;omega) (by simp only;omega) (by simp only;omega) hk fun mm j=>?_
 generalize (bC ⟨sl,ts,rs⟩ 0).1=L at hb hl hQ⊢
 simp only[Ear.cells]
 simp -implicitDefEqProofs (maxSteps:=9^9) (disch:=omega) only[go_sem,simprocAttr]
 have e3:σ.length+1+2=σ.length+3:=rfl
 rw[e3]
 refine aj.kL (Tryz.ah (S:=S) 60 Tryz.pe kh iJ) L.length (fun i τ=>∃Z:List Int,Z=(L.take i).map (· - due)++L.drop i∧τ=σ++(.cells [.int .i64 day,.int .i64 hand,.int .i64 due,.int .i64 sl,.list .no 2 (ts.map Rng.av),.list .no 6 (rs.map Rd.av)]:: .cells [.int .i64 sl,.list .no 2 (ts.map Rng.av),.list .no 6 (rs.map Rd.av)]:: .map mm:: .vec 1 (Z.map (.int .i64))::j)) (fun i=>[(46,.int .i64 i)]) (by kernel_rfl) (by simp[upd,ins,aw,ae]) ⟨L,by simp,by simp⟩ ?_ ?_
 ·rintro i τ hi ⟨Z,hZ,rfl⟩ ih
  have hzl:Z.length=L.length:=by rw[hZ];simp;omega
  have hzi:tg Z i=L[i]:=by
   have:Z[i]? = some L[i]:=by
    rw[hZ,List.getElem?_append_right (by simp;omega)]
    simp[show i-min i L.length=0 by omega,hi]
   simp[tg,List.getD_eq_getElem?_getD,this]
  have hzs:Z.set i (L[i]-due)=(L.take (i+1)).map (· - due)++L.drop (i+1):=by
   have e0:i- ((L.take i).map (· - due)).length=0:=by simp;omega
   rw[hZ,List.set_append_right _ _ (by simp;omega),e0,List.drop_eq_getElem_cons hi,List.set_cons_zero,List.take_succ_eq_append_getElem hi,List.map_append,List.append_assoc]
   rfl
  have hbi:=hb L[i] (List.getElem_mem hi)
  have hwi:IntKind.i64.wrap (L[i]-due)=L[i]-due:=wrap64 (by omega) (by omega)
  clear hZ
  rw[← hzl] at hi
  simp -implicitDefEqProofs (maxSteps:=9^9) (disch:=omega) only[go_sem,simprocAttr,hzl,hzi,hwi]
  exact(ih _ ⟨Z.set i (L[i]-due),hzs,rfl⟩).ay (by rw[Int.toNat_natCast,List.map_set]) (by simp[upd,ins,aw,ae])
 ·rintro τ ⟨Z,hZ,rfl⟩
  have hZ':Z=L.map (· - due):=by rw[hZ];simp
  have hzl:Z.length=L.length:=by rw[hZ'];simp
  simp -implicitDefEqProofs (maxSteps:=9^9) (disch:=omega) only[go_sem,simprocAttr]
  refine⟨_,0,σ.length+3,1,Z.map (.int .i64),rfl,by simp[hzl],by rw[aZ];rfl,?_⟩
  rw[hZ']
  exact hQ _
theorem Qx(x:Tn)(hands:Int)(hh:0≤hands∧hands≤1000000)(h1:x.ear.tones.length≤1000000)(h2:x.ear.rds.length≤1000000){σ:List aa}{Q:AV→List aa→Prop}(hQ:∀σ',Q (.tup [ar (bS x hands).1,.int .i64 (bS x hands).2]) σ') :
  ao S 117 [x.av,.int .i64 hands] σ Q:=by
 obtain⟨day,hand,due,ear⟩:=x
 obtain⟨sl,ts,rs⟩:=ear
 simp only at h1 h2
 refine ao.wkW ?_
 have hnil:∀v e,(bS ⟨day,hand,due,⟨sl,ts,rs⟩⟩ hands)=([],e)→∀σ',∃v',dI (.tup [.list .full v [],.int .i64 e]) v'∧Q v' σ':=by
  intro v e he σ'
  rw[he] at hQ
  refine⟨_,dI.tup (cs':=[ar [],.int .i64 e]) rfl (fun i hi hi'=>?_),hQ σ'⟩
  match i,hi with
  | 0,_=>exact LY
  | 1,_=>exact dI.refl _
 simp only[Tn.av,Tn.cells]
 have hw:IntKind.i64.wrap (hands-1)=hands-1:=wrap64 (by omega) (by omega)
 by_cases hgo:(0≤day∧day≤60)∧(-1≤hand∧hand≤hands-1)∧(1≤due∧due≤100000)∧ck ⟨sl,ts,rs⟩= 0∧¬1<ts.length∧(c8 ⟨sl,ts,rs⟩ (dq ⟨sl,ts,rs⟩ 0)).2=0
 ·obtain⟨g1,g2,g3,g4,g5,g6⟩:=hgo
  have hv2:(bC ⟨sl,ts,rs⟩ 0).2=0:=by unfold bC;rw[if_pos g6]
  have hch:bS ⟨day,hand,due,⟨sl,ts,rs⟩⟩ hands=((bC ⟨sl,ts,rs⟩ 0).1.map (· - due),0):=by
   simp only[bS];rw[if_neg (fun h=>h g1),if_neg (fun h=>h g2),if_neg (fun h=>h g3),if_neg (fun h=>h g4),if_neg g5,hv2]
  rw[hch] at hQ
  have hvl:=tA (e:=⟨sl,ts,rs⟩) g4 g6 (by simp only;omega)
  exact Rp day hand due sl ts rs hands hh h1 h2 g1 g2 g3 g4 g5 g6 hvl.1 hvl.2 fun σ'=>⟨_,dI.refl _,hQ σ'⟩
 refine AcE (Tryz.ah (S:=S) 60 Tryz.pe kh iJ) Tryz.DL Tryz.func117 rfl ?_
 rcases(Classical.em (0≤day∧day≤60)).symm with c1 | c1
 ·have d1:decide (0≤day∧day≤60)=false:=decide_eq_false c1
  simp -implicitDefEqProofs (maxSteps:=9^9) (disch:=omega) only[go_sem,simprocAttr,d1,hw]
  exact hnil _ _ (by simp only[bS];rw[if_pos c1]) _
 have d1:decide (0≤day∧day≤60)=true:=decide_eq_true c1
 rcases(Classical.em (-1≤hand∧hand≤hands-1)).symm with c2 | c2
 ·have d2:decide (-1≤hand∧hand≤hands-1)=false:=decide_eq_false c2
  simp -implicitDefEqProofs (maxSteps:=9^9) (disch:=omega) only[go_sem,simprocAttr,d1,d2,hw]
  exact hnil _ _ (by simp only[bS];rw[if_neg (fun h=>h c1),if_pos c2]) _
 have d2:decide (-1≤hand∧hand≤hands-1)=true:=decide_eq_true c2
 rcases(Classical.em (1≤due∧due≤100000)).symm with c3 | c3
 ·have d3:decide (1≤due∧due≤100000)=false:=decide_eq_false c3
  simp -implicitDefEqProofs (maxSteps:=9^9) (disch:=omega) only[go_sem,simprocAttr,d1,d2,d3,hw]
  exact hnil _ _ (by simp only[bS];rw[if_neg (fun h=>h c1),if_neg (fun h=>h c2),if_pos c3]) _
 have d3:decide (1≤due∧due≤100000)=true:=decide_eq_true c3
 have hkE:∀k,ck ⟨sl,ts,rs⟩= k→k≠0→bS ⟨day,hand,due,⟨sl,ts,rs⟩⟩ hands=([],k):=fun k hk hne=>by
  simp only[bS];rw[if_neg (fun h=>h c1),if_neg (fun h=>h c2),if_neg (fun h=>h c3),hk,if_pos hne]
 by_cases c4:ck ⟨sl,ts,rs⟩= 0
 ·have hm:¬1<ts.length→bS ⟨day,hand,due,⟨sl,ts,rs⟩⟩ hands=((bC ⟨sl,ts,rs⟩ 0).1.map (· - due),(bC ⟨sl,ts,rs⟩ 0).2):=fun h=>by
   simp only[bS];rw[if_neg (fun h=>h c1),if_neg (fun h=>h c2),if_neg (fun h=>h c3),if_neg (fun h=>h c4),if_neg h]
  by_cases c5:1<ts.length
  ·have d5:((1:Int)<ts.length)=True:=by simp;omega
   simp -implicitDefEqProofs (maxSteps:=9^9) (disch:=omega) only[go_sem,simprocAttr,d1,d2,d3,hw,c4,d5]
   exact hnil _ _ (by simp only[bS];rw[if_neg (fun h=>h c1),if_neg (fun h=>h c2),if_neg (fun h=>h c3),if_neg (fun h=>h c4),if_pos c5]) _
  ·have hk:¬(c8 ⟨sl,ts,rs⟩ (dq ⟨sl,ts,rs⟩ 0)).2=0:=fun h=>hgo ⟨c1,c2,c3,c4,c5,h⟩
   have d5:((1:Int)<ts.length)=False:=by simp;omega
   simp -implicitDefEqProofs (maxSteps:=9^9) (disch:=omega) only[go_sem,simprocAttr,d1,d2,d3,hw,c4,d5]
   refine Fp ⟨sl,ts,rs⟩ 0 (by simp only;omega) (by simp only;omega) (by simp only;omega) _ _ ?_
   have hv:bC ⟨sl,ts,rs⟩ 0=([],(c8 ⟨sl,ts,rs⟩ (dq ⟨sl,ts,rs⟩ 0)).2):=by unfold bC;rw[if_neg hk]
   rw[hm c5,hv] at hQ
   rw[hv]
   simp only[List.map_nil]
   simp -implicitDefEqProofs (maxSteps:=9^9) (disch:=omega) only[go_sem,simprocAttr]
   refine aj.once (Tryz.ah (S:=S) 60 Tryz.pe kh iJ) (by kernel_rfl) ?_
   simp -implicitDefEqProofs (maxSteps:=9^9) (disch:=omega) only[go_sem,simprocAttr]
   exact⟨_,dI.refl _,hQ _⟩
 ·have d4:(ck ⟨sl,ts,rs⟩= 0)=False:=by simp[c4]
  simp -implicitDefEqProofs (maxSteps:=9^9) (disch:=omega) only[go_sem,simprocAttr,d1,d2,d3,hw,d4]
  exact hnil _ _ (hkE _ rfl c4) _
end Go.Proofs
namespace Go.Proofs
open Go Go.Mu
structure Ros.Ok(r:Ros):Prop where
 hands:0≤r.hands∧r.hands≤1000000
 len:r.ents.length≤1048576
 ear:∀x∈r.ents,x.ear.tones.length≤1000000∧x.ear.rds.length≤1000000
def aq(r:Ros):List (List Int):=r.ents.map fun x=>(bS x r.hands).1
def gA(r:Ros):Int:=bn (r.ents.map fun x=>(bS x r.hands).2)
theorem Qw(r:Ros)(h:r.Ok):al aV 147 [r.av] (.tup [.list .no 1 ((aq r).map ar),.int .i64 (gA r)]):=by
 have:=GH bS r h.len fun V₀ x hx Q hQ=>Qx x r.hands h.hands (h.ear x hx).1 (h.ear x hx).2 hQ
 simpa[aq,gA,List.map_map,Function.comp_def] using this
end Go.Proofs
namespace Go.Proofs
open Go Go.Mu
variable {S:MC Tryz.prog}
def eN(hands:Int)(s:Sg):Int:=if¬(0≤s.hand∧s.hand≤hands-1) then 3 else if¬(0≤s.day∧s.day≤60) then 1 else 0
def bX(r:Ros):Int:=
 if¬(1≤r.hands∧r.hands≤4)∨¬(0≤r.skill∧r.skill≤9)∨¬(-5≤r.mn∧r.mn≤5)∨¬(-5≤r.mx∧r.mx≤5) then 1
 else if r.mx<r.mn then 5 else if 4<r.sets.length then 6 else if bM (eN r.hands) r.sets≠0 then bM (eN r.hands) r.sets else if 5<r.ents.length then 6 else 0
theorem FL(r:Ros)(h1:r.sets.length≤4294967296)(h2:r.ents.length≤4294967296):al S 146 [r.av] (.int .i64 (bX r)):=by
 refine PvE (Tryz.ah (S:=S) 69 (fun _=>([],[])) kh iJ) (.int) Tryz.Ma Tryz.func146 rfl ?_
 intro σ
 obtain⟨hands,skill,mn,mx,sets,ents⟩:=r
 simp only[Ros.av]
 have hneg:IntKind.i64.wrap (-5)= -5:=wrap64 (by omega) (by omega)
 rcases(Classical.em (1≤hands∧hands≤4)).symm with c1 | c1
 ·have d1:decide (1≤hands∧hands≤4)=false:=decide_eq_false c1
  simp -implicitDefEqProofs (maxSteps:=9^9) (disch:=omega) only[go_sem,simprocAttr,d1]
  simp[bX,c1]
 have d1:decide (1≤hands∧hands≤4)=true:=decide_eq_true c1
 rcases(Classical.em (0≤skill∧skill≤9)).symm with c2 | c2
 ·have d2:decide (0≤skill∧skill≤9)=false:=decide_eq_false c2
  simp -implicitDefEqProofs (maxSteps:=9^9) (disch:=omega) only[go_sem,simprocAttr,d1,d2]
  simp[bX,c2]
 have d2:decide (0≤skill∧skill≤9)=true:=decide_eq_true c2
 simp -implicitDefEqProofs (maxSteps:=9^9) (disch:=omega) only[go_sem,simprocAttr,d1,d2,hneg]
 refine⟨fun q1 q2=>⟨fun q3 q4=>⟨fun q5=>?_,fun q5=>⟨fun q6=>?_,fun q6=>?_⟩⟩,fun q3=>?_⟩,fun q1=>?_⟩
 ·simp[bX,c1,c2,q1,q2,q3,q4,q5]
 ·have q6':4<sets.length:=by omega
  simp[bX,c1,c2,q1,q2,q3,q4,q5,q6']
 ·have q6':¬4<sets.length:=by omega
  have hH:bX ⟨hands,skill,mn,mx,sets,ents⟩= if bM (eN hands) sets≠0 then bM (eN hands) sets else if 5<ents.length then 6 else 0:=by
   simp[bX,c1,c2,q1,q2,q3,q4,q5,q6']
  have hw:IntKind.i64.wrap (hands-1)=hands-1:=wrap64 (by omega) (by omega)
  rw[hH]
  refine aj.bE (Tryz.ah (S:=S) 69 (fun _=>([],[])) kh iJ) sets.length (fun i=>bM (eN hands) (sets.drop i)=bM (eN hands) sets) (fun i=>[(47,.int .i64 i)]) (fun _ j=>σ++(.cells [.int .i64 hands,.int .i64 skill,.int .i64 mn,.int .i64 mx,.list .no 2 (sets.map Sg.av),.list .no 6 (ents.map Tn.av)]::j)) [] (by kernel_rfl) (by simp) (by simp[upd,ins,aw,ae]) (by simp) ?_ ?_
  ·intro i j hi hp ih
   rw[fu hi] at hp
   simp -implicitDefEqProofs (maxSteps:=9^9) (disch:=omega) only[go_sem,simprocAttr,Sg.av,hw]
   refine⟨fun p1 p2=>⟨fun p3 p4=>?_,fun p3=>?_⟩,fun p1=>?_⟩
   ·refine(ih ?_ (j++[_])).ay rfl (by simp[upd,ins,aw,ae])
    rw[← hp];simp[eN,p1,p2,p3,p4]
   ·have e:eN hands sets[i]=1:=by simp only[eN];rw[if_neg (fun h=>h ⟨p1,p2⟩),if_pos p3]
    rw[← hp,e];simp
   ·have e:eN hands sets[i]=3:=by simp only[eN];rw[if_pos p1]
    rw[← hp,e];simp
  ·intro j hp
   rw[fV] at hp
   rw[← hp]
   simp -implicitDefEqProofs (maxSteps:=9^9) (disch:=omega) only[go_sem,simprocAttr]
   refine⟨fun p1=>?_,fun p1=>?_⟩
   ·simp;omega
   ·simp;omega
 ·simp[bX,c1,c2,q1,q2,q3]
 ·simp[bX,c1,c2,q1]
end Go.Proofs
namespace Go.Proofs
open Go Go.Mu
def Ros.wav(r:Ros)(l:List (List Int)):AV:= .agg [.int .i64 r.hands,.int .i64 r.skill,.int .i64 r.mn,.int .i64 r.mx,.list .no 2 (r.sets.map Sg.av),.list .no 6 (r.ents.map Tn.av),.list .no 1 (l.map ar)]
theorem Ros.Fw(r:Ros)(l:List (List Int)):Plain (r.wav l):= .agg (by
 simp only[List.mem_cons,List.not_mem_nil,or_false,forall_eq_or_imp,forall_eq]
 exact⟨.int,.int,.int,.int,.map fun y _=>y.plain,ky _,.map fun x _=>Plain.fY (cA x).2⟩)
theorem qI(r:Ros)(hh:bX r=0)(h1:r.sets.length≤4294967296)(hok:r.Ok):al aV 103 [r.av] (.tup [r.wav (aq r),.int .i64 (gA r)]):=by
 refine PvE (Tryz.ah (S:=aV) 22 (fun _=>([],[])) fs0 aD) (.tup (by simp only[List.mem_cons,List.not_mem_nil,or_false,forall_eq_or_imp,forall_eq];exact⟨r.Fw _,.int⟩)) Tryz.Fb Tryz.func103 rfl ?_
 intro σ
 simp only[Ros.av]
 simp -implicitDefEqProofs (maxSteps:=9^9) (disch:=omega) only[go_sem,simprocAttr]
 refine FL r h1 (by have:=hok.len;omega) _ _ ?_
 rw[hh]
 simp -implicitDefEqProofs (maxSteps:=9^9) (disch:=omega) only[go_sem,simprocAttr]
 refine Qw r hok _ _ ?_
 simp -implicitDefEqProofs (maxSteps:=9^9) (disch:=omega) only[go_sem,simprocAttr]
 simp[Ros.wav,wk1,wkL,wk0]
theorem zh(r:Ros)(hh:bX r≠0)(h1:r.sets.length≤4294967296)(h2:r.ents.length≤4294967296):al aV 103 [r.av] (.tup [(⟨0,0,0,0,[],[]⟩: Ros).wav [],.int .i64 (bX r)]):=by
 refine PvE (Tryz.ah (S:=aV) 22 (fun _=>([],[])) fs0 aD) (.tup (by simp only[List.mem_cons,List.not_mem_nil,or_false,forall_eq_or_imp,forall_eq];exact⟨Ros.Fw _ _,.int⟩)) Tryz.Fb Tryz.func103 rfl ?_
 intro σ
 simp only[Ros.av]
 simp -implicitDefEqProofs (maxSteps:=9^9) (disch:=omega) only[go_sem,simprocAttr]
 refine FL r h1 h2 _ _ ?_
 have hh':(bX r=0)=False:=by simp[hh]
 simp -implicitDefEqProofs (maxSteps:=9^9) (disch:=omega) only[go_sem,simprocAttr,hh']
 simp[Ros.wav,wk1,wkL,wk0]
structure Ros.Fit(r:Ros):Prop where
 sets:r.sets.length≤1000000
 ents:r.ents.length≤1000000
 ear:∀x∈r.ents,x.ear.tones.length≤1000000∧x.ear.rds.length≤1000000
theorem Ros.Fit.ok{r:Ros}(h:r.Fit)(hh:bX r=0):r.Ok:=by
 refine⟨?_,by have:=h.ents;omega,h.ear⟩
 by_cases c:1≤r.hands∧r.hands≤4
 ·omega
 ·exfalso
  unfold bX at hh
  rw[if_pos (.inl c)] at hh
  omega
def bP(r:Ros):Int:=if bX r≠0 then bX r else gA r
end Go.Proofs
namespace Go.Proofs
open Go Go.Mu
variable {S:MC Tryz.prog}
theorem Jp(n lo hi:Int):al S 194 [.int .i64 n,.int .i64 lo,.int .i64 hi] (.bool (decide (lo≤n∧n≤hi))):=by
 refine PvE (Tryz.ah (S:=S) 15 (fun _=>([],[])) fs0 aD) (.bool) Tryz.M1 Tryz.func194 rfl ?_
 intro σ
 simp -implicitDefEqProofs (maxSteps:=9^9) (disch:=omega) only[go_sem,simprocAttr]
 exact⟨fun h1=>⟨fun h2=>by simp[*],fun h2=>by simp[*]⟩,fun h1=>by simp[*]⟩
def r6:=jk tI tI tI fun n lo hi=>some (.bool (decide (lo≤n∧n≤hi)))
theorem Fl:∀xs v,r6 xs=some v→al S 194 xs v:=
 gM fun n lo hi v h=>by simp only[Option.some.injEq] at h;rw[← h];exact Jp n lo hi
def sG(f:FuncId)(xs:List AV):Option AV:=if f=194 then r6 xs else fs1 f xs
theorem zy{S:MC Tryz.prog}:∀f xs v,sG f xs=some v→al S f xs v:=by
 intro f xs v h
 unfold sG at h
 split at h
 ·rename_i e;subst e;exact Fl _ _ h
 exact ql _ _ _ h
attribute [go_sem] sG r6
def fQ(x:Rng)(lo hi:Int):Int:=if¬(lo≤x.lo∧x.lo≤hi)∨¬(lo≤x.hi∧x.hi≤hi) then 1 else if x.hi<x.lo then 5 else 0
theorem Kc(x:Rng)(lo hi:Int):al S 195 [x.av,.int .i64 lo,.int .i64 hi] (.int .i64 (fQ x lo hi)):=by
 refine PvE (Tryz.ah (S:=S) 26 (fun _=>([],[])) sG zy) (.int) Tryz.Nq Tryz.func195 rfl ?_
 intro σ
 simp only[Rng.av]
 unfold fQ
 by_cases h1:lo≤x.lo∧x.lo≤hi
 ·have d1:decide (lo≤x.lo∧x.lo≤hi)=true:=decide_eq_true h1
  by_cases h2:lo≤x.hi∧x.hi≤hi
  ·have d2:decide (lo≤x.hi∧x.hi≤hi)=true:=decide_eq_true h2
   rw[if_neg (by rintro(h | h);exact h h1;exact h h2)]
   simp -implicitDefEqProofs (maxSteps:=9^9) (disch:=omega) only[go_sem,simprocAttr,d1,d2]
   exact⟨fun h=>by rw[if_pos (by omega)],fun h=>by rw[if_neg (by omega)]⟩
  ·have d2:decide (lo≤x.hi∧x.hi≤hi)=false:=decide_eq_false h2
   rw[if_pos (.inr h2)]
   simp -implicitDefEqProofs (maxSteps:=9^9) (disch:=omega) only[go_sem,simprocAttr,d1,d2]
 ·have d1:decide (lo≤x.lo∧x.lo≤hi)=false:=decide_eq_false h1
  rw[if_pos (.inl h1)]
  simp -implicitDefEqProofs (maxSteps:=9^9) (disch:=omega) only[go_sem,simprocAttr,d1]
def rR:=jk J0 tI tI fun x lo hi=>some (.int .i64 (fQ x lo hi))
theorem Gp:∀xs v,rR xs=some v→al S 195 xs v:=
 gM fun x lo hi v h=>by simp only[Option.some.injEq] at h;rw[← h];exact Kc x lo hi
def uD(f:FuncId)(xs:List AV):Option AV:=if f=195 then rR xs else sG f xs
theorem zI{S:MC Tryz.prog}:∀f xs v,uD f xs=some v→al S f xs v:=by
 intro f xs v h
 unfold uD at h
 split at h
 ·rename_i e;subst e;exact Gp _ _ h
 exact zy _ _ _ h
attribute [go_sem] uD rR
theorem Dw(r:Rd)(m:Int)(h1:0≤m)(h2:m≤4294967296):al S 196 [r.av,.int .i64 m] (.int .i64 (ckR r m)):=by
 refine PvE (Tryz.ah (S:=S) 69 (fun _=>([],[])) uD zI) (.int) Tryz.N1 Tryz.func196 rfl ?_
 intro σ
 obtain⟨k,a,b,s,x⟩:=r
 simp only[Rd.av]
 by_cases c1:1≤k∧k≤3
 ·have d1:decide (1≤k∧k≤3)=true:=decide_eq_true c1
  by_cases c2:0≤a∧a≤m-1
  ·have d2:decide (0≤a∧a≤m-1)=true:=decide_eq_true c2
   by_cases c3:0≤b∧b≤m-1
   ·have d3:decide (0≤b∧b≤m-1)=true:=decide_eq_true c3
    by_cases k3:k=3
    ·subst k3
     by_cases c4:0≤s∧s≤0
     ·have d4:decide (0≤s∧s≤0)=true:=decide_eq_true c4
      simp -implicitDefEqProofs (maxSteps:=9^9) (disch:=omega) only[go_sem,simprocAttr,d1,d2,d3,d4]
      simp only[ckR,fQ];grind
     ·have d4:decide (0≤s∧s≤0)=false:=decide_eq_false c4
      simp -implicitDefEqProofs (maxSteps:=9^9) (disch:=omega) only[go_sem,simprocAttr,d1,d2,d3,d4]
      simp only[ckR,fQ];grind
    ·by_cases c4:1≤s∧s≤20
     ·have d4:decide (1≤s∧s≤20)=true:=decide_eq_true c4
      simp -implicitDefEqProofs (maxSteps:=9^9) (disch:=omega) only[go_sem,simprocAttr,d1,d2,d3,d4]
      simp only[ckR,fQ];grind
     ·have d4:decide (1≤s∧s≤20)=false:=decide_eq_false c4
      simp -implicitDefEqProofs (maxSteps:=9^9) (disch:=omega) only[go_sem,simprocAttr,d1,d2,d3,d4]
      simp only[ckR,fQ];grind
   ·have d3:decide (0≤b∧b≤m-1)=false:=decide_eq_false c3
    simp -implicitDefEqProofs (maxSteps:=9^9) (disch:=omega) only[go_sem,simprocAttr,d1,d2,d3]
    simp only[ckR,fQ];grind
  ·have d2:decide (0≤a∧a≤m-1)=false:=decide_eq_false c2
   simp -implicitDefEqProofs (maxSteps:=9^9) (disch:=omega) only[go_sem,simprocAttr,d1,d2]
   simp only[ckR];grind
 ·have d1:decide (1≤k∧k≤3)=false:=decide_eq_false c1
  simp -implicitDefEqProofs (maxSteps:=9^9) (disch:=omega) only[go_sem,simprocAttr,d1]
  simp only[ckR];grind
def nF:=cW tRd tI fun r m=>if 0≤m∧m≤4294967296 then some (.int .i64 (ckR r m)) else none
theorem Am:∀xs v,nF xs=some v→al S 196 xs v:=
 cj fun r m v h=>by have h:=b7 h;rw[← h.2];exact Dw r m h.1.1 h.1.2
def ow(f:FuncId)(xs:List AV):Option AV:=if f=196 then nF xs else uD f xs
theorem od{S:MC Tryz.prog}:∀f xs v,ow f xs=some v→al S f xs v:=by
 intro f xs v h
 unfold ow at h
 split at h
 ·rename_i e;subst e;exact Am _ _ h
 exact zI _ _ _ h
attribute [go_sem] ow nF
theorem zC(x:Rng):ckT x=if fQ x 1 100000≠0 then fQ x 1 100000 else if x.hi-x.lo>20 then 1 else 0:=by simp only[ckT,fQ];grind
theorem JV{x:Rng}{lo hi:Int}(h:fQ x lo hi=0):lo≤x.lo∧x.lo≤x.hi∧x.hi≤hi:=by simp only[fQ] at h;grind
theorem Lu(e:Ear)(h1:e.tones.length≤4294967296)(h2:e.rds.length≤4294967296):al S 148 [e.av] (.int .i64 (ck e)):=by
 refine PvE (Tryz.ah (S:=S) 72 Tryz.um ow od) (.int) Tryz.Nr Tryz.func148 rfl ?_
 intro σ
 obtain⟨s,ts,rs⟩:=e
 simp only[Ear.av] at *
 by_cases g0:0≤s∧s≤3
 ·have d0:decide (0≤s∧s≤3)=true:=decide_eq_true g0
  simp -implicitDefEqProofs (maxSteps:=9^9) (disch:=omega) only[go_sem,simprocAttr,d0]
  refine⟨fun g3=>?_,fun g3=>⟨fun g4=>?_,fun g4=>?_⟩⟩
  ·simp only[ck];grind
  ·simp only[ck];grind
  ·refine aj.bE (Tryz.ah (S:=S) 72 Tryz.um ow od) ts.length (fun i=>bM ckT (ts.drop i)=bM ckT ts) (fun i=>[(3,.int .i64 i)]) (fun _ j=>σ++(.cells [.int .i64 s,.list .no 2 (ts.map Rng.av),.list .no 6 (rs.map Rd.av)]::j)) [] (by kernel_rfl) rfl (by simp[upd,ins,aw,ae]) rfl ?_ ?_
   ·intro i j hi hp ih
    rw[fu hi] at hp
    by_cases q0:fQ ts[i] 1 100000=0
    ·obtain⟨q1,q2,q3⟩:=JV q0
     simp -implicitDefEqProofs (maxSteps:=9^9) (disch:=omega) only[go_sem,simprocAttr,Rng.av,q0]
     refine⟨fun q=>?_,fun q=>?_⟩
     ·have hz:ckT ts[i]=1:=by rw[zC,if_neg (by simp[q0]),if_pos q]
      simp only[ck];grind
     ·have hz:ckT ts[i]=0:=by rw[zC,if_neg (by simp[q0]),if_neg q]
      rw[if_pos hz] at hp
      first
       | exact(ih hp j).ay rfl (by simp[upd,ins,aw,ae])
       | exact(ih hp (j++[_])).ay rfl (by simp[upd,ins,aw,ae])
    ·have hz:ckT ts[i]=fQ ts[i] 1 100000:=by rw[zC,if_pos q0]
     simp -implicitDefEqProofs (maxSteps:=9^9) (disch:=omega) only[go_sem,simprocAttr,Rng.av,q0]
     rw[← hz] at q0⊢
     simp only[ck];grind
   ·intro j hp
    rw[fV] at hp
    simp -implicitDefEqProofs (maxSteps:=9^9) (disch:=omega) only[go_sem,simprocAttr]
    refine⟨fun q1=>?_,fun q1=>?_⟩
    ·simp only[ck];grind
    ·refine aj.bE (Tryz.ah (S:=S) 72 Tryz.um ow od) rs.length (fun i=>bM (fun r=>ckR r ts.length) (rs.drop i)=bM (fun r=>ckR r ts.length) rs) (fun i=>[(5,.int .i64 i)]) (fun _ j=>σ++(.cells [.int .i64 s,.list .no 2 (ts.map Rng.av),.list .no 6 (rs.map Rd.av)]::j)) j (by kernel_rfl) rfl (by simp[upd,ins,aw,ae]) rfl ?_ ?_
     ·intro i j hi hp2 ih
      rw[fu hi] at hp2
      simp -implicitDefEqProofs (maxSteps:=9^9) (disch:=omega) only[go_sem,simprocAttr,Rd.av]
      refine⟨fun q2=>?_,fun q2=>?_⟩
      ·simp only[ck];grind
      ·rw[if_pos (by grind)] at hp2
       first
        | exact(ih hp2 j).ay rfl (by simp[upd,ins,aw,ae])
        | exact(ih hp2 (j++[_])).ay rfl (by simp[upd,ins,aw,ae])
     ·intro j hp2
      rw[fV] at hp2
      simp -implicitDefEqProofs (maxSteps:=9^9) (disch:=omega) only[go_sem,simprocAttr]
      simp only[ck];grind
 ·have d0:decide (0≤s∧s≤3)=false:=decide_eq_false g0
  simp -implicitDefEqProofs (maxSteps:=9^9) (disch:=omega) only[go_sem,simprocAttr,d0]
  simp only[ck];grind
def rD:=jh lp fun e=>if e.tones.length≤4294967296∧e.rds.length≤4294967296 then some (.int .i64 (ck e)) else none
theorem IK:∀xs v,rD xs=some v→al S 148 xs v:=
 gB fun e v h=>by have h:=b7 h;rw[← h.2];exact Lu e h.1.1 h.1.2
def xF(f:FuncId)(xs:List AV):Option AV:=if f=148 then rD xs else ow f xs
theorem Jc{S:MC Tryz.prog}:∀f xs v,xF f xs=some v→al S f xs v:=by
 intro f xs v h
 unfold xF at h
 split at h
 ·rename_i e;subst e;exact IK _ _ h
 exact od _ _ _ h
attribute [go_sem] xF rD
theorem Oj(a b:Int)(ha:0≤a∧a≤1000000)(hb:0≤b∧b≤1000000):al S 240 [.int .i64 a,.int .i64 b] (.int .i64 (im a b)):=by
 refine PvE (Tryz.ah (S:=S) 12 (fun _=>([],[])) fs0 aD) (.int) Tryz.Mc Tryz.func240 rfl ?_
 intro σ
 simp -implicitDefEqProofs (maxSteps:=9^9) (disch:=omega) only[go_sem,simprocAttr]
 simp only[im];grind
def vy:=cW tI tI fun a b=>if(0≤a∧a≤1000000)∧(0≤b∧b≤1000000) then some (.int .i64 (im a b)) else none
theorem JN:∀xs v,vy xs=some v→al S 240 xs v:=
 cj fun a b v h=>by have h:=b7 h;rw[← h.2];exact Oj a b h.1.1 h.1.2
def tR(f:FuncId)(xs:List AV):Option AV:=if f=240 then vy xs else xF f xs
theorem x8{S:MC Tryz.prog}:∀f xs v,tR f xs=some v→al S f xs v:=by
 intro f xs v h
 unfold tR at h
 split at h
 ·rename_i e;subst e;exact JN _ _ h
 exact Jc _ _ _ h
attribute [go_sem] tR vy
theorem Og(sl:Int)(T:List Int)(r:Rd)(hs:small T)(hr:okR r)(ha:r.a<T.length)(hb:r.kind≠1→r.b<T.length)(hsl:0≤sl∧sl≤3)(hT:T.length≤4294967296):al S 237 [.int .i64 sl,.list .no 1 (T.map (.int .i64)),r.av] (.bool (isR r sl T)):=by
 refine PvE (Tryz.ah (S:=S) 76 Tryz.Ha tR x8) (.bool) Tryz.L8 Tryz.func237 rfl ?_
 intro σ
 obtain⟨h1,h2,h3,h4,h5,h6⟩:=hr
 obtain⟨k,a,b,s,⟨x,y⟩⟩:=r
 simp only at h1 h2 h3 h4 h5 h6 ha hb
 have ja:=dZ hs a
 have jb:=dZ hs b
 have ia:idx (T.map (AV.int .i64)) a=some (.int .i64 (tg T a)):=ix h2.1 ha
 have ma:=pD ja h4
 have md:=pD (vh ja jb) h4
 have wa:IntKind.i64.wrap (tg T a*s)=tg T a*s:=wrap64 (by omega) (by omega)
 have wd:IntKind.i64.wrap (im (tg T a) (tg T b)*s)=im (tg T a) (tg T b)*s:=wrap64 (by omega) (by omega)
 simp only[Rd.av]
 by_cases k1:k=1
 ·subst k1
  clear hb md wd jb
  generalize tg T a*s=q at ma
  simp -implicitDefEqProofs (maxSteps:=9^9) (disch:=omega) only[go_sem,simprocAttr,ia,wa]
  unfold isR;rw[if_pos rfl]
  grind
 ·have ib:idx (T.map (AV.int .i64)) b=some (.int .i64 (tg T b)):=ix h3.1 (hb k1)
  by_cases k2:k=2
  ·subst k2
   simp -implicitDefEqProofs (maxSteps:=9^9) (disch:=omega) only[go_sem,simprocAttr,ia,ib,wd]
   unfold isR;rw[if_neg (by simp),if_pos rfl]
   grind
  ·simp -implicitDefEqProofs (maxSteps:=9^9) (disch:=omega) only[go_sem,simprocAttr,ia,ib]
   unfold isR;rw[if_neg k1,if_neg k2]
   grind
def okI(r:Rd)(m:Int):Prop:=r.a<m∧(r.kind≠1→r.b<m)
instance (r:Rd)(m:Int):Decidable (okI r m):=by unfold okI;infer_instance
def uZ:=jk tI tIs tRd fun sl T r=>if small T∧okR r∧okI r T.length∧(0≤sl∧sl≤3)∧T.length≤4294967296 then some (.bool (isR r sl T)) else none
theorem KA:∀xs v,uZ xs=some v→al S 237 xs v:=
 gM fun sl T r v h=>by have h:=b7 h;rw[← h.2];exact Og sl T r h.1.1 h.1.2.1 h.1.2.2.1.1 h.1.2.2.1.2 h.1.2.2.2.1 h.1.2.2.2.2
def qH(f:FuncId)(xs:List AV):Option AV:=if f=237 then uZ xs else tR f xs
theorem rL{S:MC Tryz.prog}:∀f xs v,qH f xs=some v→al S f xs v:=by
 intro f xs v h
 unfold qH at h
 split at h
 ·rename_i e;subst e;exact KA _ _ h
 exact x8 _ _ _ h
attribute [go_sem] qH uZ
theorem OA{r:Rd}{m:Int}(h:ckR r m=0):r.a<m∧(r.kind≠1→r.b<m):=by simp only[ckR] at h;grind
theorem UM{e:Ear}(h:ck e=0):∀r∈e.rds,ckR r e.tones.length=0:=by
 simp only[ck] at h
 exact ie (f:=fun r=>ckR r e.tones.length) (by grind)
theorem Oq(e:Ear)(T:List Int)(hc:ck e=0)(hT:T.length=e.tones.length)(hs:small T):al S 224 [e.av,.list .no 1 (T.map (.int .i64))] (.bool (e.rds.all fun r=>isR r e.slack T)):=by
 refine PvE (Tryz.ah (S:=S) 23 Tryz.y8 qH rL) (.bool) Tryz.NB Tryz.func224 rfl ?_
 intro σ
 have he:=dQ hc
 have hrd:=UM hc
 have hlen:=he.len
 have hrl:=he.rl
 have hsl:=he.sl
 obtain⟨sl,ts,rs⟩:=e
 simp only at hT hrd hlen hrl hsl
 simp only[Ear.av]
 simp -implicitDefEqProofs (maxSteps:=9^9) (disch:=omega) only[go_sem,simprocAttr]
 refine aj.bE (Tryz.ah (S:=S) 23 Tryz.y8 qH rL) rs.length (fun i=>((rs.drop i).all fun r=>isR r sl T)=rs.all fun r=>isR r sl T) (fun i=>[(5,.int .i64 i)]) (fun _ _=>σ++[.cells [.int .i64 sl,.list .no 2 (ts.map Rng.av),.list .no 6 (rs.map Rd.av)]]) [] (by kernel_rfl) rfl (by simp[upd,ins,aw,ae]) rfl ?_ ?_
 ·intro i j hi hp ih
  have hck:=hrd _ (List.getElem_mem hi)
  have hok:okR rs[i]:=he.rd _ (List.getElem_mem hi)
  obtain⟨x1,x2⟩:=OA hck
  rw[← hT] at x1 x2
  have hri:idx (rs.map Rd.av) (i:Int)=some rs[i].av:=by rw[bu hi]
  rw[drop_cons hi,List.all_cons] at hp
  have hpre:small T∧okR rs[i]∧okI rs[i] T.length∧(0≤sl∧sl≤3)∧T.length≤4294967296:=⟨hs,hok,⟨x1,x2⟩,hsl,by omega⟩
  clear hck hok x1 x2 hrd he hc
  generalize rs[i]=y at hri hp hpre
  obtain⟨y1,y2,y3,y4,⟨y5,y6⟩⟩:=y
  obtain⟨p1,p2,p3,p4,p5⟩:=hpre
  clear hs hsl
  cases hb:isR ⟨y1,y2,y3,y4,⟨y5,y6⟩⟩ sl T
  ·rw[hb,Bool.false_and] at hp
   rw[← hp]
   simp -implicitDefEqProofs (maxSteps:=9^9) (disch:=omega) only[go_sem,simprocAttr,hri,Rd.av,p1,p2,p3,p4,p5,hb]
  ·rw[hb,Bool.true_and] at hp
   simp -implicitDefEqProofs (maxSteps:=9^9) (disch:=omega) only[go_sem,simprocAttr,hri,Rd.av,p1,p2,p3,p4,p5,hb]
   exact(ih hp []).ay rfl (by simp[upd,ins,aw,ae])
 ·intro j hp
  rw[List.drop_length] at hp
  rw[← hp]
  simp -implicitDefEqProofs (maxSteps:=9^9) (disch:=omega) only[go_sem,simprocAttr]
def oC(T:List Int):List Int:=T++List.replicate (3-T.length) 0
theorem Rs(T:List Int)(i:Int):tg (oC T) i=tg T i:=by
 unfold tg oC
 simp only[List.getD,List.getElem?_append,List.getElem?_replicate]
 split
 ·rfl
 ·rename_i h
  rw[List.getElem?_eq_none (by omega)]
  split<;> rfl
theorem Oy(r:Rd)(sl:Int)(T:List Int):isR r sl (oC T)=isR r sl T:=by simp only[isR,Rs]
def isv(t:List Int):AV:= .list .no 1 (t.map (AV.int .i64))
def tss(L:List (List Int)):AV:= .list .no 1 (L.map isv)
def uP:AV→Option (List Int)
 | .list .no 1 xs=>fT ln xs
 | _=>none
theorem JP(a:AV)(x:List Int)(h:uP a=some x):a=isv x:=by
 unfold uP at h;split at h
 ·rw[jZ nE h];rfl
 ·cases h
theorem Jq(x:List Int):uP (isv x)=some x:=p8
def QX:Ty (List (List Int)):=⟨dA 1 uP,tss,qn JP⟩
theorem JQ{a:AV}:QX.dec a=dA 1 uP a:=rfl
theorem LC{t:Tok}{l:List (List Int)}:dA 1 uP (.list t 1 (l.map isv))=some l:=iR Jq
theorem Ew(t:List Int):Plain (.list .no 1 (t.map (AV.int .i64))):=by
 intro n
 refine .list _ _ _ (fun id e=>by cases e) fun i j hi hj=>?_
 simp[AV.cells] at hj⊢
 exact .int _ _
theorem wE(l:List (List Int)):Plain (tss l):=by
 intro n
 refine .list _ _ _ (fun id e=>by cases e) fun i j hi hj=>?_
 simp only[List.getElem_map,isv,AV.cells,List.length_singleton] at hj⊢
 have:j=0:=by omega
 subst this
 exact Ew _ n
attribute [go_sem] JQ LC
theorem Cy{t:List Int}:(oC t).take t.length=t:=by simp[oC]
theorem F7{t:List Int}(h:t.length<3)(v:Int):bG (oC t) t.length v=oC (t++[v]):=by
 simp only[bG,oC,Int.toNat_natCast,List.length_append,List.length_singleton]
 rw[List.set_append_right _ _ (by omega),Nat.sub_self]
 have e:3-t.length=(3- (t.length+1))+1:=by omega
 rw[e,List.replicate_succ]
 simp
def eW(e:Ear)(t:List Int):List (List Int):=(dY e (e.tones.length-t.length) (oC t) t.length).map (List.take e.tones.length)
def vw:=cW lp tIs fun e T=>if ck e=0∧T.length=e.tones.length∧small T then some (.bool (e.rds.all fun r=>isR r e.slack T)) else none
theorem KB:∀xs v,vw xs=some v→al S 224 xs v:=
 cj fun e T v h=>by have h:=b7 h;rw[← h.2];exact Oq e T h.1.1 h.1.2.1 h.1.2.2
def oB(f:FuncId)(xs:List AV):Option AV:=if f=224 then vw xs else qH f xs
theorem om{S:MC Tryz.prog}:∀f xs v,oB f xs=some v→al S f xs v:=by
 intro f xs v h
 unfold oB at h
 split at h
 ·rename_i e;subst e;exact KB _ _ h
 exact rL _ _ _ h
attribute [go_sem] oB vw
theorem IN{e:Ear}{a:Nat}(h:a<e.tones.length):e.tones.getD a default=e.tones[a]:=by simp[List.getD,List.getElem?_eq_getElem h]
theorem UZ{l:List Rng}{a:Nat}(h:a<l.length):idx (l.map Rng.av) (a:Int)=some l[a].av:=by rw[bu h]
theorem R5(e:Ear)(hc:ck e=0):∀(d:Nat) (t:List Int),t.length+d=e.tones.length→small t→al S 197 [e.av,.list .no 1 (t.map (.int .i64))] (tss (eW e t)):=by
 have he:=dQ hc
 have hlen:=he.len
 intro d
 induction d with
 | zero=>
  intro t hl hs
  refine PvE (Tryz.ah (S:=S) 44 Tryz.th oB om) (wE _) Tryz.CX Tryz.func197 rfl ?_
  intro σ
  have hL:eW e t=if(e.rds.all fun r=>isR r e.slack t) then[t] else[]:=by
   unfold eW
   have e0:e.tones.length-t.length=0:=by omega
   rw[e0]
   simp only[dY,Oy]
   split
   ·simp only[List.map_cons,List.map_nil];rw[show e.tones.length=t.length by omega,Cy]
   ·rfl
  rw[hL]
  simp only[Ear.av]
  have hl':t.length=e.tones.length:=by omega
  have hc':ck ⟨e.slack,e.tones,e.rds⟩= 0:=hc
  cases hb:(e.rds.all fun r=>isR r e.slack t)
  ·simp -implicitDefEqProofs (maxSteps:=9^9) (disch:=omega) only[go_sem,simprocAttr,hc',hs,hb,hl',tss,List.map_nil]
  ·simp -implicitDefEqProofs (maxSteps:=9^9) (disch:=omega) only[go_sem,simprocAttr,hc',hs,hb,hl',tss,isv]
 | succ d ih=>
  intro t hl hs
  refine PvE (Tryz.ah (S:=S) 44 Tryz.th oB om) (wE _) Tryz.CX Tryz.func197 rfl ?_
  intro σ
  have hlt:t.length<e.tones.length:=by omega
  have hx:=he.tone _ (List.getElem_mem hlt)
  have hxi:=UZ hlt
  have hT:∀v,0≤v∧v≤1000000→small (t++[v]):=fun v hv x hx=>by
   rcases List.mem_append.1 hx with h | h
   ·exact hs x h
   ·simp at h;subst h;exact hv
  have hL:eW e t=(List.range (e.tones[t.length].hi-e.tones[t.length].lo+1).toNat).flatMap fun(k:Nat)=>eW e (t++[e.tones[t.length].lo+k]):=by
   unfold eW
   rw[show e.tones.length-t.length=d+1 by omega]
   simp only[dY,IN hlt,List.map_flatMap]
   congr 1;funext k
   rw[F7 (by omega),List.length_append,List.length_singleton,show e.tones.length- (t.length+1)=d by omega]
  rw[hL]
  have hle:∀v,(eW e (t++[v])).length≤441:=fun v=>by
   unfold eW
   rw[List.length_map]
   refine Nat.le_trans (se e he _ _ _ (by simp;omega)) (Nat.le_trans (Nat.pow_le_pow_right (by omega) (show _≤2 by simp;omega)) (by decide))
  generalize e.tones[t.length]=x at hx hxi
  obtain⟨lo,hi⟩:=x
  simp only at hx
  simp only[Ear.av]
  simp -implicitDefEqProofs (maxSteps:=9^9) (disch:=omega) only[go_sem,simprocAttr,hxi,Rng.av]
  refine aj.ghost 5 1 (sz0:=0) rfl (by simp[ae]) ?_
  simp only[ins,↓reduceIte,List.append_assoc,List.cons_append,List.nil_append,List.length_append,List.length_cons,List.length_nil,Nat.zero_add,Nat.reduceEqDiff,Nat.reduceAdd]
  refine aj.bE (Tryz.ah (S:=S) 44 Tryz.th oB om) (hi-lo+1).toNat (fun _=>True) (fun i=>[(5,.list (.own (σ.length+2)) 1 (((List.range i).flatMap fun(k:Nat)=>eW e (t++[lo+k])).map isv)),(7,.int .i64 (lo+i))]) (fun i j=>σ++(.cells e.cells:: .cells [.int .i64 lo,.int .i64 hi]:: .tail ((List.range i).flatMap fun(k:Nat)=>eW e (t++[lo+k])).length 1::j)) [] (by kernel_rfl) (by simp[Ear.cells]) (by simp[upd,ins,aw,ae]) trivial ?_ ?_
  ·intro i j hi' _ ih2
   have hbl:((List.range i).flatMap fun(k:Nat)=>eW e (t++[lo+k])).length≤i*441:=bB _ fun k _=>hle _
   rw[gE] at ih2
   have hle1:=hle (lo+i)
   have ih':=ih (t++[lo+i]) (by simp;omega) (hT _ (by omega))
   generalize ((List.range i).flatMap fun(k:Nat)=>eW e (t++[lo+k]))=B at hbl ih2⊢
   generalize eW e (t++[lo+i])=C at hle1 ih2 ih'
   simp -implicitDefEqProofs (maxSteps:=9^9) (disch:=omega) only[go_sem,simprocAttr,Ear.cells]
   refine al.weaken (l':=[e.av,.list .no 1 ((t++[lo+(i:Int)]).map (AV.int .i64))]) ?_ ih' _ _ ?_
   ·simp[wkL,wk,wk1,wk0,Ear.av]
   ·simp -implicitDefEqProofs (maxSteps:=9^9) (disch:=omega) only[go_sem,simprocAttr,tss]
    exact(ih2 trivial (j++[.tail (t.length+1) 1])).ay (by simp[Ear.cells]) (by simp[upd,ins,aw,ae,Int.add_assoc])
  ·intro j _
   have hbl:((List.range (hi-lo+1).toNat).flatMap fun(k:Nat)=>eW e (t++[lo+k])).length≤(hi-lo+1).toNat*441:=bB _ fun k _=>hle _
   generalize ((List.range (hi-lo+1).toNat).flatMap fun(k:Nat)=>eW e (t++[lo+k]))=B at hbl⊢
   simp -implicitDefEqProofs (maxSteps:=9^9) (disch:=omega) only[go_sem,simprocAttr,Ear.cells,tss]
def eT(e:Ear):List (List Int):=(aF e).map (List.take e.tones.length)
theorem Py{t:List Int}{m:Nat}{i:Int}(h:i<m)(h0:0≤i):tg (t.take m) i=tg t i:=by
 simp only[tg,List.getD]
 rw[List.getElem?_take_of_lt (by omega)]
theorem Bm{e:Ear}(he:OkE e):(eT e).length≤9261:=by unfold eT;rw[List.length_map];exact eo he
theorem Db{e:Ear}(he:OkE e):∀t∈eT e,t.length=e.tones.length∧small t:=fun t ht=>by
 obtain⟨u,hu,rfl⟩:=List.mem_map.1 ht
 obtain⟨h1,h2⟩:=ei he u hu
 have:=he.len
 exact⟨by rw[List.length_take];omega,fun x hx=>h2 x (List.mem_of_mem_take hx)⟩
theorem rh{e:Ear}:eT e=[]↔aF e=[]:=by unfold eT;simp
theorem IA(num:List Int→Int)(f:List Int→List Int){l:List (List Int)}(h:l≠[]):bH num (l.map f)=bH (fun t=>num (f t)) l:=by
 cases l with
 | nil=>exact absurd rfl h
 | cons a l=>simp only[bH,List.map_cons,List.headD_cons,List.foldl_cons,List.foldl_map];rfl
theorem pT{α β:Type}{f g:β→α→β}:∀{l:List α} {b:β},(∀b,∀x∈l,f b x=g b x)→l.foldl f b=l.foldl g b
 | [],_,_=>rfl
 | a::l,b,h=>by
  simp only[List.foldl_cons]
  rw[h b a (by simp)]
  exact pT fun b x hx=>h b x (by simp[hx])
theorem Bb{num num':List Int→Int}{l:List (List Int)}(h:l≠[])(hn:∀t∈l,num t=num' t):bH num l=bH num' l:=by
 cases l with
 | nil=>exact absurd rfl h
 | cons a l=>
  unfold bH
  simp only[List.headD_cons]
  rw[hn a (by simp)]
  exact pT fun b x hx=>by simp only[cD];rw[hn x hx]
theorem TD{e:Ear}(num num':List Int→Int)(h:aF e≠[])(hn:∀t,num (t.take e.tones.length)=num' t):bH num (eT e)=bH num' (aF e):=by
 unfold eT
 rw[IA _ _ h]
 exact Bb h fun t _=>hn t
def yH:=cW lp tIs fun e t=>if ck e=0∧t.length≤e.tones.length∧small t then some (tss (eW e t)) else none
theorem OE:∀xs v,yH xs=some v→al S 197 xs v:=
 cj fun e t v h=>by have h:=b7 h;rw[← h.2];exact R5 e h.1.1 (e.tones.length-t.length) t (by omega) h.1.2.2
def xg(f:FuncId)(xs:List AV):Option AV:=if f=197 then yH xs else oB f xs
theorem Ky{S:MC Tryz.prog}:∀f xs v,xg f xs=some v→al S f xs v:=by
 intro f xs v h
 unfold xg at h
 split at h
 ·rename_i e;subst e;exact OE _ _ h
 exact om _ _ _ h
attribute [go_sem] xg yH
theorem GN:small []:=fun x hx=>by cases hx
theorem O1{L:List (List Int)}{i:Nat}(h:i<L.length):idx (L.map isv) (i:Int)=some (isv L[i]):=qv h
theorem QI(L:List (List Int))(x:Int)(hL:L≠[])(hl:L.length≤4294967296)(hx:0≤x)(hxl:∀t∈L,x<t.length):al S 198 [tss L,.int .i64 x] (bH (fun t=>tg t x) L).av:=by
 refine PvE (Tryz.ah (S:=S) 48 Tryz.zZ fs0 aD) (Rng.plain _) Tryz.Mx Tryz.func198 rfl ?_
 intro σ
 have h0:0<L.length:=List.length_pos_iff.2 hL
 have hidx:idx (L.map isv) 0=some (isv L[0]):=qv (i:=0) h0
 have hx0:idx (L[0].map (AV.int .i64)) x=some (.int .i64 (tg L[0] x)):=ix hx (hxl _ (List.getElem_mem h0))
 have hd:L.headD []=L[0]:=by cases L with | nil=>exact absurd rfl hL | cons a b=>rfl
 have hsp:bH (fun t=>tg t x) L=L.foldl (cD fun t=>tg t x) ⟨tg L[0] x,tg L[0] x⟩:=by rw[bH,hd]
 rw[hsp]
 generalize tg L[0] x=v0 at hx0⊢
 generalize L[0]=T0 at hidx hx0
 simp only[tss]
 simp -implicitDefEqProofs (maxSteps:=9^9) (disch:=omega) only[go_sem,simprocAttr,hidx,hx0,isv]
 have hf0:(L.take 0).foldl (cD fun t=>tg t x) ⟨v0,v0⟩=⟨v0,v0⟩:=rfl
 have hfa:=Hb (cD fun t=>tg t x) ⟨v0,v0⟩ L
 have hft:=lb (cD fun t=>tg t x) ⟨v0,v0⟩ L
 generalize hF:(fun i=>(L.take i).foldl (cD fun t=>tg t x) ⟨v0,v0⟩)=F
 have hF':∀i,(L.take i).foldl (cD fun t=>tg t x) ⟨v0,v0⟩= F i:=fun i=>by rw[← hF]
 simp only[hF'] at hf0 hfa hft
 refine aj.bE (Tryz.ah (S:=S) 48 Tryz.zZ fs0 aD) L.length (fun _=>True) (fun i=>[(6,.int .i64 i)]) (fun i j=>σ++(.cells [.int .i64 0,.int .i64 0]:: .cells [.int .i64 (F i).lo,.int .i64 (F i).hi]::j)) [] (by kernel_rfl) (by simp[hf0]) (by simp[upd,ins,aw,ae]) trivial ?_ ?_
 ·intro i j hi _ ih
  have hri:idx (L.map isv) (i:Int)=some (isv L[i]):=O1 hi
  have hrx:idx (L[i].map (AV.int .i64)) x=some (.int .i64 (tg L[i] x)):=ix hx (hxl _ (List.getElem_mem hi))
  rw[hft i hi] at ih
  generalize F i=f at ih⊢
  simp only[cD,mn,mx] at ih
  generalize tg L[i] x=vi at hrx ih
  generalize L[i]=Ti at hri hrx
  simp -implicitDefEqProofs (maxSteps:=9^9) (disch:=omega) only[go_sem,simprocAttr,hri,hrx,isv]
  exact(ih trivial j).ay rfl (by simp[upd,ins,aw,ae])
 ·intro j _
  rw[← hfa]
  generalize F L.length=f
  simp -implicitDefEqProofs (maxSteps:=9^9) (disch:=omega) only[go_sem,simprocAttr,Rng.av]
def inT(x:Int)(L:List (List Int)):Prop:=∀t∈L,x<t.length
instance (x:Int)(L:List (List Int)):Decidable (inT x L):=by unfold inT;infer_instance
def zT:=cW QX tI fun L x=>if L≠[]∧L.length≤4294967296∧0≤x∧inT x L then some (bH (fun t=>tg t x) L).av else none
theorem PK:∀xs v,zT xs=some v→al S 198 xs v:=
 cj fun L x v h=>by have h:=b7 h;rw[← h.2];exact QI L x h.1.1 h.1.2.1 h.1.2.2.1 h.1.2.2.2
def qz(f:FuncId)(xs:List AV):Option AV:=if f=198 then zT xs else xg f xs
theorem rP{S:MC Tryz.prog}:∀f xs v,qz f xs=some v→al S f xs v:=by
 intro f xs v h
 unfold qz at h
 split at h
 ·rename_i e;subst e;exact PK _ _ h
 exact Ky _ _ _ h
attribute [go_sem] qz zT
end Go.Proofs
