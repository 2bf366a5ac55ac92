/- Texts of a proof: lemmas. -/
import Derived.Test.YtgbdndlmdklefaaGreatEK25
import Derived.Test.YtgbdndlmdklefaaGreatEK17
import Derived.Test.YtgbdndlmdklefaaGreatEK26
import Derived.Test.YtgbdndlmdklefaaGreatEK22
import Derived.Test.YtgbdndlmdklefaaGreatEK23
set_option linter.unusedSimpArgs false
set_option linter.unusedVariables false
set_option maxRecDepth 100000
set_option maxHeartbeats 40000000
namespace Go.Proofs
open Go Go.Mu
variable {S:MC Tryz.prog}
def hin_s:=spec3 tI tI tI fun n lo hi=>some (.bool (decide (lo≤n∧n≤hi)))
theorem hin_ok:∀xs v,hin_s xs=some v→PureV S 99 xs v:=by
 refine spec3_ok fun n lo hi v h=>?_
 simp only[Option.some.injEq] at h;subst h
 refine PvE (Tryz.envOK (S:=S) 15 (fun _=>([],[])) fs0 fs0_ok) (.bool) Tryz.kp99 Tryz.func99 rfl ?_
 intro σ
 simp only[tI]
 simp -implicitDefEqProofs (maxSteps:=9^9) (disch:=omega) only[go_sem,simprocAttr]
 refine⟨fun h1=>⟨fun h2=>?_,fun h2=>?_⟩,fun h1=>?_⟩<;> simp[h1, *]
def fs400(f:FuncId)(xs:List AV):Option AV:=if f=99 then hin_s xs else fs8 f xs
theorem fs400_ok{S:MC Tryz.prog}:∀f xs v,fs400 f xs=some v→PureV S f xs v:=by
 intro f xs v h
 unfold fs400 at h
 split at h
 ·rename_i e;subst e;exact hin_ok _ _ h
 exact fs8_ok _ _ _ h
attribute [go_sem] fs400 hin_s
def chkE(x:Tn)(hands:Int):List Int×Int:=
 if¬(0≤x.day∧x.day≤60) then([],1) else if¬(-1≤x.hand∧x.hand≤hands-1) then([],3) else if¬(1≤x.due∧x.due≤100000) then([],1)
 else if ck x.ear≠0 then([],ck x.ear) else if 1<x.ear.tones.length then([],6) else((valuesL x.ear 0).1.map (· - x.due),(valuesL x.ear 0).2)
theorem _root_.Go.Mu.ACalls.wkW{P:Program}{S:MC P}{f:FuncId}{args:List AV}{σ:List AObj}{Q:AV→List AObj→Prop}(h:ACalls S f args σ fun v σ'=>∃v',Weak v v'∧Q v' σ'):ACalls S f args σ Q:=
 ⟨h.1,fun M hM K w V cargs kd cs hR hO hV=>M.bind (h.2 M hM K w V cargs kd cs hR hO hV) fun g' w' V' ⟨fr,v,σ',K',e1,e2,e3,hl,⟨v',hw,hq⟩,r1,r2,r3⟩=>M.ret ⟨fr,v',σ',K',e1,e2,e3,hl.mono fun c hc=>hw _ _ _ hc,hq,r1,r2,r3⟩⟩
theorem weak_nil{sz:Nat}:Weak (.list .full sz []) (ints1 []):=fun K n c h=>by
 cases h with
 | list _ _ _ a cap f hl ht ha hs h1 h=>exact .list .no 1 [] a cap f hl trivial (fun h=>absurd rfl h) (fun i hi=>by simp at hi) (fun i j hi=>by simp at hi) (fun i j hi=>by simp at hi)
theorem valuesL_le{e:Ear}(hk:ck e=0)(ha:(askL e (oneE e 0)).2=0)(ht:e.tones.length≤1):(∀y∈(valuesL e 0).1, -1000000≤y∧y≤1000000)∧(valuesL e 0).1.length≤1000000:=by
 have he:=okE_of_ck hk
 have hv:(valuesL e 0).1=sortL (firstsL ((truthsL e).map fun t=>tg t 0)):=by unfold valuesL;rw[if_pos ha]
 rw[hv]
 refine⟨fun y hy=>?_,?_⟩
 ·unfold sortL firstsL at hy
  rw[List.mem_mergeSort,addN_mem] at hy
  rcases hy with hy | hy
  ·simp at hy
  ·obtain⟨t,ht',rfl⟩:=List.mem_map.1 hy
   obtain⟨h3,hs⟩:=truthsL_ok he t ht'
   match t,h3 with
   | [a,b,c],_=>
    have:=hs a (by simp)
    simp[tg];omega
 ·rw[sortL_len]
  refine Nat.le_trans (addN_len _ []) ?_
  have:=truthsL_len he
  simp;omega
theorem chkV_c(day hand due sl:Int)(ts:List Rng)(rs:List Rd)(hands:Int)(hh:0≤hands∧hands≤1000000)(h1:ts.length≤1000000)(h2:rs.length≤1000000)(c1:0≤day∧day≤60)(c2: -1≤hand∧hand≤hands-1)(c3:1≤due∧due≤100000)
  (c4:ck ⟨sl,ts,rs⟩= 0) (c5:¬1<ts.length) (hk:(askL ⟨sl,ts,rs⟩ (oneE ⟨sl,ts,rs⟩ 0)).2=0) (hb:∀y∈(valuesL ⟨sl,ts,rs⟩ 0).1, -1000000≤y∧y≤1000000) (hl:(valuesL ⟨sl,ts,rs⟩ 0).1.length≤1000000) {σ:List AObj} {Q:AV→List AObj→Prop} (hQ:∀σ',Q (.tup [ints1 ((valuesL ⟨sl,ts,rs⟩ 0).1.map (· - due)),.int .i64 0]) σ') :
  ACalls S 117 [.agg [.int .i64 day,.int .i64 hand,.int .i64 due,.int .i64 sl,.list .no 2 (ts.map Rng.av),.list .no 6 (rs.map Rd.av)],.int .i64 hands] σ Q:=by
 have hw:IntKind.i64.wrap (hands-1)=hands-1:=wrap64 (by omega) (by omega)
 have d1:decide (0≤day∧day≤60)=true:=decide_eq_true c1
 have d2:decide (-1≤hand∧hand≤hands-1)=true:=decide_eq_true c2
 have d3:decide (1≤due∧due≤100000)=true:=decide_eq_true c3
 have d5:((1:Int)<ts.length)=False:=by simp;omega
 refine ACalls.frozeT ?_
 refine AcE (Tryz.envOK (S:=S) 60 Tryz.ord117 fs400 fs400_ok) Tryz.kp117 Tryz.func117 rfl ?_
 simp -implicitDefEqProofs (maxSteps:=9^9) (disch:=omega) only[go_sem,simprocAttr,d1,d2,d3,hw,c4,d5]
 refine values1_v ⟨sl,ts,rs⟩ 0 (by simp only;omega) (by simp only;omega) (by simp only;omega) hk fun mm j=>?_
 generalize (valuesL ⟨sl,ts,rs⟩ 0).1=L at hb hl hQ⊢
 simp only[Ear.cells]
 simp -implicitDefEqProofs (maxSteps:=9^9) (disch:=omega) only[go_sem,simprocAttr]
 have e3:σ.length+1+2=σ.length+3:=rfl
 rw[e3]
 refine ARun.forJ (Tryz.envOK (S:=S) 60 Tryz.ord117 fs400 fs400_ok) L.length (fun i τ=>∃Z:List Int,Z=(L.take i).map (· - due)++L.drop i∧τ=σ++(.cells [.int .i64 day,.int .i64 hand,.int .i64 due,.int .i64 sl,.list .no 2 (ts.map Rng.av),.list .no 6 (rs.map Rd.av)]:: .cells [.int .i64 sl,.list .no 2 (ts.map Rng.av),.list .no 6 (rs.map Rd.av)]:: .map mm:: .vec 1 (Z.map (.int .i64))::j)) (fun i=>[(46,.int .i64 i)]) (by kernel_rfl) (by simp[upd,ins,subF,lookA]) ⟨L,by simp,by simp⟩ ?_ ?_
 ·rintro i τ hi ⟨Z,hZ,rfl⟩ ih
  have hzl:Z.length=L.length:=by rw[hZ];simp;omega
  have hzi:tg Z i=L[i]:=by
   have:Z[i]? = some L[i]:=by
    rw[hZ,List.getElem?_append_right (by simp;omega)]
    simp[show i-min i L.length=0 by omega,hi]
   simp[tg,List.getD_eq_getElem?_getD,this]
  have hzs:Z.set i (L[i]-due)=(L.take (i+1)).map (· - due)++L.drop (i+1):=by
   have e0:i- ((L.take i).map (· - due)).length=0:=by simp;omega
   rw[hZ,List.set_append_right _ _ (by simp;omega),e0,List.drop_eq_getElem_cons hi,List.set_cons_zero,List.take_succ_eq_append_getElem hi,List.map_append,List.append_assoc]
   rfl
  have hbi:=hb L[i] (List.getElem_mem hi)
  have hwi:IntKind.i64.wrap (L[i]-due)=L[i]-due:=wrap64 (by omega) (by omega)
  clear hZ
  rw[← hzl] at hi
  simp -implicitDefEqProofs (maxSteps:=9^9) (disch:=omega) only[go_sem,simprocAttr,hzl,hzi,hwi]
  exact(ih _ ⟨Z.set i (L[i]-due),hzs,rfl⟩).castS (by rw[Int.toNat_natCast,List.map_set]) (by simp[upd,ins,subF,lookA])
 ·rintro τ ⟨Z,hZ,rfl⟩
  have hZ':Z=L.map (· - due):=by rw[hZ];simp
  have hzl:Z.length=L.length:=by rw[hZ'];simp
  simp -implicitDefEqProofs (maxSteps:=9^9) (disch:=omega) only[go_sem,simprocAttr]
  refine⟨_,0,σ.length+3,1,Z.map (.int .i64),rfl,by simp[hzl],by rw[hget_at];rfl,?_⟩
  rw[hZ']
  exact hQ _
theorem chkE_c(x:Tn)(hands:Int)(hh:0≤hands∧hands≤1000000)(h1:x.ear.tones.length≤1000000)(h2:x.ear.rds.length≤1000000){σ:List AObj}{Q:AV→List AObj→Prop}(hQ:∀σ',Q (.tup [ints1 (chkE x hands).1,.int .i64 (chkE x hands).2]) σ') :
  ACalls S 117 [x.av,.int .i64 hands] σ Q:=by
 obtain⟨day,hand,due,ear⟩:=x
 obtain⟨sl,ts,rs⟩:=ear
 simp only at h1 h2
 refine ACalls.wkW ?_
 have hnil:∀v e,(chkE ⟨day,hand,due,⟨sl,ts,rs⟩⟩ hands)=([],e)→∀σ',∃v',Weak (.tup [.list .full v [],.int .i64 e]) v'∧Q v' σ':=by
  intro v e he σ'
  rw[he] at hQ
  refine⟨_,Weak.tup (cs':=[ints1 [],.int .i64 e]) rfl (fun i hi hi'=>?_),hQ σ'⟩
  match i,hi with
  | 0,_=>exact weak_nil
  | 1,_=>exact Weak.refl _
 simp only[Tn.av,Tn.cells]
 have hw:IntKind.i64.wrap (hands-1)=hands-1:=wrap64 (by omega) (by omega)
 by_cases hgo:(0≤day∧day≤60)∧(-1≤hand∧hand≤hands-1)∧(1≤due∧due≤100000)∧ck ⟨sl,ts,rs⟩= 0∧¬1<ts.length∧(askL ⟨sl,ts,rs⟩ (oneE ⟨sl,ts,rs⟩ 0)).2=0
 ·obtain⟨g1,g2,g3,g4,g5,g6⟩:=hgo
  have hv2:(valuesL ⟨sl,ts,rs⟩ 0).2=0:=by unfold valuesL;rw[if_pos g6]
  have hch:chkE ⟨day,hand,due,⟨sl,ts,rs⟩⟩ hands=((valuesL ⟨sl,ts,rs⟩ 0).1.map (· - due),0):=by
   simp only[chkE];rw[if_neg (fun h=>h g1),if_neg (fun h=>h g2),if_neg (fun h=>h g3),if_neg (fun h=>h g4),if_neg g5,hv2]
  rw[hch] at hQ
  have hvl:=valuesL_le (e:=⟨sl,ts,rs⟩) g4 g6 (by simp only;omega)
  exact chkV_c day hand due sl ts rs hands hh h1 h2 g1 g2 g3 g4 g5 g6 hvl.1 hvl.2 fun σ'=>⟨_,Weak.refl _,hQ σ'⟩
 refine AcE (Tryz.envOK (S:=S) 60 Tryz.ord117 fs400 fs400_ok) Tryz.kp117 Tryz.func117 rfl ?_
 rcases(Classical.em (0≤day∧day≤60)).symm with c1 | c1
 ·have d1:decide (0≤day∧day≤60)=false:=decide_eq_false c1
  simp -implicitDefEqProofs (maxSteps:=9^9) (disch:=omega) only[go_sem,simprocAttr,d1,hw]
  exact hnil _ _ (by simp only[chkE];rw[if_pos c1]) _
 have d1:decide (0≤day∧day≤60)=true:=decide_eq_true c1
 rcases(Classical.em (-1≤hand∧hand≤hands-1)).symm with c2 | c2
 ·have d2:decide (-1≤hand∧hand≤hands-1)=false:=decide_eq_false c2
  simp -implicitDefEqProofs (maxSteps:=9^9) (disch:=omega) only[go_sem,simprocAttr,d1,d2,hw]
  exact hnil _ _ (by simp only[chkE];rw[if_neg (fun h=>h c1),if_pos c2]) _
 have d2:decide (-1≤hand∧hand≤hands-1)=true:=decide_eq_true c2
 rcases(Classical.em (1≤due∧due≤100000)).symm with c3 | c3
 ·have d3:decide (1≤due∧due≤100000)=false:=decide_eq_false c3
  simp -implicitDefEqProofs (maxSteps:=9^9) (disch:=omega) only[go_sem,simprocAttr,d1,d2,d3,hw]
  exact hnil _ _ (by simp only[chkE];rw[if_neg (fun h=>h c1),if_neg (fun h=>h c2),if_pos c3]) _
 have d3:decide (1≤due∧due≤100000)=true:=decide_eq_true c3
 have hkE:∀k,ck ⟨sl,ts,rs⟩= k→k≠0→chkE ⟨day,hand,due,⟨sl,ts,rs⟩⟩ hands=([],k):=fun k hk hne=>by
  simp only[chkE];rw[if_neg (fun h=>h c1),if_neg (fun h=>h c2),if_neg (fun h=>h c3),hk,if_pos hne]
 by_cases c4:ck ⟨sl,ts,rs⟩= 0
 ·have hm:¬1<ts.length→chkE ⟨day,hand,due,⟨sl,ts,rs⟩⟩ hands=((valuesL ⟨sl,ts,rs⟩ 0).1.map (· - due),(valuesL ⟨sl,ts,rs⟩ 0).2):=fun h=>by
   simp only[chkE];rw[if_neg (fun h=>h c1),if_neg (fun h=>h c2),if_neg (fun h=>h c3),if_neg (fun h=>h c4),if_neg h]
  by_cases c5:1<ts.length
  ·have d5:((1:Int)<ts.length)=True:=by simp;omega
   simp -implicitDefEqProofs (maxSteps:=9^9) (disch:=omega) only[go_sem,simprocAttr,d1,d2,d3,hw,c4,d5]
   exact hnil _ _ (by simp only[chkE];rw[if_neg (fun h=>h c1),if_neg (fun h=>h c2),if_neg (fun h=>h c3),if_neg (fun h=>h c4),if_pos c5]) _
  ·have hk:¬(askL ⟨sl,ts,rs⟩ (oneE ⟨sl,ts,rs⟩ 0)).2=0:=fun h=>hgo ⟨c1,c2,c3,c4,c5,h⟩
   have d5:((1:Int)<ts.length)=False:=by simp;omega
   simp -implicitDefEqProofs (maxSteps:=9^9) (disch:=omega) only[go_sem,simprocAttr,d1,d2,d3,hw,c4,d5]
   refine values1_p ⟨sl,ts,rs⟩ 0 (by simp only;omega) (by simp only;omega) (by simp only;omega) _ _ ?_
   have hv:valuesL ⟨sl,ts,rs⟩ 0=([],(askL ⟨sl,ts,rs⟩ (oneE ⟨sl,ts,rs⟩ 0)).2):=by unfold valuesL;rw[if_neg hk]
   rw[hm c5,hv] at hQ
   rw[hv]
   simp only[List.map_nil]
   simp -implicitDefEqProofs (maxSteps:=9^9) (disch:=omega) only[go_sem,simprocAttr]
   refine ARun.once (Tryz.envOK (S:=S) 60 Tryz.ord117 fs400 fs400_ok) (by kernel_rfl) ?_
   simp -implicitDefEqProofs (maxSteps:=9^9) (disch:=omega) only[go_sem,simprocAttr]
   exact⟨_,Weak.refl _,hQ _⟩
 ·have d4:(ck ⟨sl,ts,rs⟩= 0)=False:=by simp[c4]
  simp -implicitDefEqProofs (maxSteps:=9^9) (disch:=omega) only[go_sem,simprocAttr,d1,d2,d3,hw,d4]
  exact hnil _ _ (hkE _ rfl c4) _
end Go.Proofs
namespace Go.Proofs
open Go Go.Mu
structure Ros.Ok(r:Ros):Prop where
 hands:0≤r.hands∧r.hands≤1000000
 len:r.ents.length≤1048576
 ear:∀x∈r.ents,x.ear.tones.length≤1000000∧x.ear.rds.length≤1000000
def entsL(r:Ros):List (List Int):=r.ents.map fun x=>(chkE x r.hands).1
def entsE(r:Ros):Int:=firstNZ (r.ents.map fun x=>(chkE x r.hands).2)
theorem ents_p(r:Ros)(h:r.Ok):PureV SBes 147 [r.av] (.tup [.list .no 1 ((entsL r).map ints1),.int .i64 (entsE r)]):=by
 have:=entries_p chkE r h.len fun V₀ x hx Q hQ=>chkE_c x r.hands h.hands (h.ear x hx).1 (h.ear x hx).2 hQ
 simpa[entsL,entsE,List.map_map,Function.comp_def] using this
end Go.Proofs
namespace Go.Proofs
open Go Go.Mu
variable {S:MC Tryz.prog}
def setE(hands:Int)(s:Sg):Int:=if¬(0≤s.hand∧s.hand≤hands-1) then 3 else if¬(0≤s.day∧s.day≤60) then 1 else 0
def headE(r:Ros):Int:=
 if¬(1≤r.hands∧r.hands≤4)∨¬(0≤r.skill∧r.skill≤9)∨¬(-5≤r.mn∧r.mn≤5)∨¬(-5≤r.mx∧r.mx≤5) then 1
 else if r.mx<r.mn then 5 else if 4<r.sets.length then 6 else if firstE (setE r.hands) r.sets≠0 then firstE (setE r.hands) r.sets else if 5<r.ents.length then 6 else 0
theorem head_p(r:Ros)(h1:r.sets.length≤4294967296)(h2:r.ents.length≤4294967296):PureV S 146 [r.av] (.int .i64 (headE r)):=by
 refine PvE (Tryz.envOK (S:=S) 69 (fun _=>([],[])) fs400 fs400_ok) (.int) Tryz.kp146 Tryz.func146 rfl ?_
 intro σ
 obtain⟨hands,skill,mn,mx,sets,ents⟩:=r
 simp only[Ros.av]
 have hneg:IntKind.i64.wrap (-5)= -5:=wrap64 (by omega) (by omega)
 rcases(Classical.em (1≤hands∧hands≤4)).symm with c1 | c1
 ·have d1:decide (1≤hands∧hands≤4)=false:=decide_eq_false c1
  simp -implicitDefEqProofs (maxSteps:=9^9) (disch:=omega) only[go_sem,simprocAttr,d1]
  simp[headE,c1]
 have d1:decide (1≤hands∧hands≤4)=true:=decide_eq_true c1
 rcases(Classical.em (0≤skill∧skill≤9)).symm with c2 | c2
 ·have d2:decide (0≤skill∧skill≤9)=false:=decide_eq_false c2
  simp -implicitDefEqProofs (maxSteps:=9^9) (disch:=omega) only[go_sem,simprocAttr,d1,d2]
  simp[headE,c2]
 have d2:decide (0≤skill∧skill≤9)=true:=decide_eq_true c2
 simp -implicitDefEqProofs (maxSteps:=9^9) (disch:=omega) only[go_sem,simprocAttr,d1,d2,hneg]
 refine⟨fun q1 q2=>⟨fun q3 q4=>⟨fun q5=>?_,fun q5=>⟨fun q6=>?_,fun q6=>?_⟩⟩,fun q3=>?_⟩,fun q1=>?_⟩
 ·simp[headE,c1,c2,q1,q2,q3,q4,q5]
 ·have q6':4<sets.length:=by omega
  simp[headE,c1,c2,q1,q2,q3,q4,q5,q6']
 ·have q6':¬4<sets.length:=by omega
  have hH:headE ⟨hands,skill,mn,mx,sets,ents⟩= if firstE (setE hands) sets≠0 then firstE (setE hands) sets else if 5<ents.length then 6 else 0:=by
   simp[headE,c1,c2,q1,q2,q3,q4,q5,q6']
  have hw:IntKind.i64.wrap (hands-1)=hands-1:=wrap64 (by omega) (by omega)
  rw[hH]
  refine ARun.forS (Tryz.envOK (S:=S) 69 (fun _=>([],[])) fs400 fs400_ok) sets.length (fun i=>firstE (setE hands) (sets.drop i)=firstE (setE hands) sets) (fun i=>[(47,.int .i64 i)]) (fun _ j=>σ++(.cells [.int .i64 hands,.int .i64 skill,.int .i64 mn,.int .i64 mx,.list .no 2 (sets.map Sg.av),.list .no 6 (ents.map Tn.av)]::j)) [] (by kernel_rfl) (by simp) (by simp[upd,ins,subF,lookA]) (by simp) ?_ ?_
  ·intro i j hi hp ih
   rw[firstE_drop hi] at hp
   simp -implicitDefEqProofs (maxSteps:=9^9) (disch:=omega) only[go_sem,simprocAttr,Sg.av,hw]
   refine⟨fun p1 p2=>⟨fun p3 p4=>?_,fun p3=>?_⟩,fun p1=>?_⟩
   ·refine(ih ?_ (j++[_])).castS rfl (by simp[upd,ins,subF,lookA])
    rw[← hp];simp[setE,p1,p2,p3,p4]
   ·have e:setE hands sets[i]=1:=by simp only[setE];rw[if_neg (fun h=>h ⟨p1,p2⟩),if_pos p3]
    rw[← hp,e];simp
   ·have e:setE hands sets[i]=3:=by simp only[setE];rw[if_pos p1]
    rw[← hp,e];simp
  ·intro j hp
   rw[firstE_end] at hp
   rw[← hp]
   simp -implicitDefEqProofs (maxSteps:=9^9) (disch:=omega) only[go_sem,simprocAttr]
   refine⟨fun p1=>?_,fun p1=>?_⟩
   ·simp;omega
   ·simp;omega
 ·simp[headE,c1,c2,q1,q2,q3]
 ·simp[headE,c1,c2,q1]
end Go.Proofs
namespace Go.Proofs
open Go Go.Mu
def Ros.wav(r:Ros)(l:List (List Int)):AV:= .agg [.int .i64 r.hands,.int .i64 r.skill,.int .i64 r.mn,.int .i64 r.mx,.list .no 2 (r.sets.map Sg.av),.list .no 6 (r.ents.map Tn.av),.list .no 1 (l.map ints1)]
theorem Ros.wplain(r:Ros)(l:List (List Int)):Plain (r.wav l):= .agg (by
 simp only[List.mem_cons,List.not_mem_nil,or_false,forall_eq_or_imp,forall_eq]
 exact⟨.int,.int,.int,.int,.map fun y _=>y.plain,tns_plain _,.map fun x _=>Plain.cells_list (ints1_good x).2⟩)
theorem rosterOf_ok(r:Ros)(hh:headE r=0)(h1:r.sets.length≤4294967296)(hok:r.Ok):PureV SBes 103 [r.av] (.tup [r.wav (entsL r),.int .i64 (entsE r)]):=by
 refine PvE (Tryz.envOK (S:=SBes) 22 (fun _=>([],[])) fs0 fs0_ok) (.tup (by simp only[List.mem_cons,List.not_mem_nil,or_false,forall_eq_or_imp,forall_eq];exact⟨r.wplain _,.int⟩)) Tryz.kp103 Tryz.func103 rfl ?_
 intro σ
 simp only[Ros.av]
 simp -implicitDefEqProofs (maxSteps:=9^9) (disch:=omega) only[go_sem,simprocAttr]
 refine head_p r h1 (by have:=hok.len;omega) _ _ ?_
 rw[hh]
 simp -implicitDefEqProofs (maxSteps:=9^9) (disch:=omega) only[go_sem,simprocAttr]
 refine ents_p r hok _ _ ?_
 simp -implicitDefEqProofs (maxSteps:=9^9) (disch:=omega) only[go_sem,simprocAttr]
 simp[Ros.wav,wk1,wkL,wk0]
theorem rosterOf_err(r:Ros)(hh:headE r≠0)(h1:r.sets.length≤4294967296)(h2:r.ents.length≤4294967296):PureV SBes 103 [r.av] (.tup [(⟨0,0,0,0,[],[]⟩: Ros).wav [],.int .i64 (headE r)]):=by
 refine PvE (Tryz.envOK (S:=SBes) 22 (fun _=>([],[])) fs0 fs0_ok) (.tup (by simp only[List.mem_cons,List.not_mem_nil,or_false,forall_eq_or_imp,forall_eq];exact⟨Ros.wplain _ _,.int⟩)) Tryz.kp103 Tryz.func103 rfl ?_
 intro σ
 simp only[Ros.av]
 simp -implicitDefEqProofs (maxSteps:=9^9) (disch:=omega) only[go_sem,simprocAttr]
 refine head_p r h1 h2 _ _ ?_
 have hh':(headE r=0)=False:=by simp[hh]
 simp -implicitDefEqProofs (maxSteps:=9^9) (disch:=omega) only[go_sem,simprocAttr,hh']
 simp[Ros.wav,wk1,wkL,wk0]
structure Ros.Fit(r:Ros):Prop where
 sets:r.sets.length≤1000000
 ents:r.ents.length≤1000000
 ear:∀x∈r.ents,x.ear.tones.length≤1000000∧x.ear.rds.length≤1000000
theorem Ros.Fit.ok{r:Ros}(h:r.Fit)(hh:headE r=0):r.Ok:=by
 refine⟨?_,by have:=h.ents;omega,h.ear⟩
 by_cases c:1≤r.hands∧r.hands≤4
 ·omega
 ·exfalso
  unfold headE at hh
  rw[if_pos (.inl c)] at hh
  omega
def rosE(r:Ros):Int:=if headE r≠0 then headE r else entsE r
theorem hCheck_p(r:Ros)(h:r.Fit):PureV SBes 42 [r.av] (.int .i64 (rosE r)):=by
 refine PvE (Tryz.envOK (S:=SBes) 11 (fun _=>([],[])) fs0 fs0_ok) (.int) Tryz.kp42 Tryz.func42 rfl ?_
 intro σ
 simp only[Ros.av]
 by_cases hh:headE r=0
 ·simp -implicitDefEqProofs (maxSteps:=9^9) (disch:=omega) only[go_sem,simprocAttr]
  refine rosterOf_ok r hh (by have:=h.sets;omega) (h.ok hh) _ _ ?_
  simp -implicitDefEqProofs (maxSteps:=9^9) (disch:=omega) only[go_sem,simprocAttr,Ros.wav]
  simp[rosE,hh]
 ·simp -implicitDefEqProofs (maxSteps:=9^9) (disch:=omega) only[go_sem,simprocAttr]
  refine rosterOf_err r hh (by have:=h.sets;omega) (by have:=h.ents;omega) _ _ ?_
  simp -implicitDefEqProofs (maxSteps:=9^9) (disch:=omega) only[go_sem,simprocAttr,Ros.wav]
  simp[rosE,hh]
end Go.Proofs
namespace Go.Proofs
open Go Go.Mu
variable {S:MC Tryz.prog}
theorem ramong_p(n lo hi:Int):PureV S 194 [.int .i64 n,.int .i64 lo,.int .i64 hi] (.bool (decide (lo≤n∧n≤hi))):=by
 refine PvE (Tryz.envOK (S:=S) 15 (fun _=>([],[])) fs0 fs0_ok) (.bool) Tryz.kp194 Tryz.func194 rfl ?_
 intro σ
 simp -implicitDefEqProofs (maxSteps:=9^9) (disch:=omega) only[go_sem,simprocAttr]
 exact⟨fun h1=>⟨fun h2=>by simp[*],fun h2=>by simp[*]⟩,fun h1=>by simp[*]⟩
def ramong_s:=spec3 tI tI tI fun n lo hi=>some (.bool (decide (lo≤n∧n≤hi)))
theorem ramong_ok:∀xs v,ramong_s xs=some v→PureV S 194 xs v:=
 spec3_ok fun n lo hi v h=>by simp only[Option.some.injEq] at h;rw[← h];exact ramong_p n lo hi
def fs101(f:FuncId)(xs:List AV):Option AV:=if f=194 then ramong_s xs else fs1 f xs
theorem fs101_ok{S:MC Tryz.prog}:∀f xs v,fs101 f xs=some v→PureV S f xs v:=by
 intro f xs v h
 unfold fs101 at h
 split at h
 ·rename_i e;subst e;exact ramong_ok _ _ h
 exact fs1_ok _ _ _ h
attribute [go_sem] fs101 ramong_s
def ckRng(x:Rng)(lo hi:Int):Int:=if¬(lo≤x.lo∧x.lo≤hi)∨¬(lo≤x.hi∧x.hi≤hi) then 1 else if x.hi<x.lo then 5 else 0
theorem rrange_p(x:Rng)(lo hi:Int):PureV S 195 [x.av,.int .i64 lo,.int .i64 hi] (.int .i64 (ckRng x lo hi)):=by
 refine PvE (Tryz.envOK (S:=S) 26 (fun _=>([],[])) fs101 fs101_ok) (.int) Tryz.kp195 Tryz.func195 rfl ?_
 intro σ
 simp only[Rng.av]
 unfold ckRng
 by_cases h1:lo≤x.lo∧x.lo≤hi
 ·have d1:decide (lo≤x.lo∧x.lo≤hi)=true:=decide_eq_true h1
  by_cases h2:lo≤x.hi∧x.hi≤hi
  ·have d2:decide (lo≤x.hi∧x.hi≤hi)=true:=decide_eq_true h2
   rw[if_neg (by rintro(h | h);exact h h1;exact h h2)]
   simp -implicitDefEqProofs (maxSteps:=9^9) (disch:=omega) only[go_sem,simprocAttr,d1,d2]
   exact⟨fun h=>by rw[if_pos (by omega)],fun h=>by rw[if_neg (by omega)]⟩
  ·have d2:decide (lo≤x.hi∧x.hi≤hi)=false:=decide_eq_false h2
   rw[if_pos (.inr h2)]
   simp -implicitDefEqProofs (maxSteps:=9^9) (disch:=omega) only[go_sem,simprocAttr,d1,d2]
 ·have d1:decide (lo≤x.lo∧x.lo≤hi)=false:=decide_eq_false h1
  rw[if_pos (.inl h1)]
  simp -implicitDefEqProofs (maxSteps:=9^9) (disch:=omega) only[go_sem,simprocAttr,d1]
def rrange_s:=spec3 tRng tI tI fun x lo hi=>some (.int .i64 (ckRng x lo hi))
theorem rrange_ok:∀xs v,rrange_s xs=some v→PureV S 195 xs v:=
 spec3_ok fun x lo hi v h=>by simp only[Option.some.injEq] at h;rw[← h];exact rrange_p x lo hi
def fs102(f:FuncId)(xs:List AV):Option AV:=if f=195 then rrange_s xs else fs101 f xs
theorem fs102_ok{S:MC Tryz.prog}:∀f xs v,fs102 f xs=some v→PureV S f xs v:=by
 intro f xs v h
 unfold fs102 at h
 split at h
 ·rename_i e;subst e;exact rrange_ok _ _ h
 exact fs101_ok _ _ _ h
attribute [go_sem] fs102 rrange_s
theorem rreading_p(r:Rd)(m:Int)(h1:0≤m)(h2:m≤4294967296):PureV S 196 [r.av,.int .i64 m] (.int .i64 (ckR r m)):=by
 refine PvE (Tryz.envOK (S:=S) 69 (fun _=>([],[])) fs102 fs102_ok) (.int) Tryz.kp196 Tryz.func196 rfl ?_
 intro σ
 obtain⟨k,a,b,s,x⟩:=r
 simp only[Rd.av]
 by_cases c1:1≤k∧k≤3
 ·have d1:decide (1≤k∧k≤3)=true:=decide_eq_true c1
  by_cases c2:0≤a∧a≤m-1
  ·have d2:decide (0≤a∧a≤m-1)=true:=decide_eq_true c2
   by_cases c3:0≤b∧b≤m-1
   ·have d3:decide (0≤b∧b≤m-1)=true:=decide_eq_true c3
    by_cases k3:k=3
    ·subst k3
     by_cases c4:0≤s∧s≤0
     ·have d4:decide (0≤s∧s≤0)=true:=decide_eq_true c4
      simp -implicitDefEqProofs (maxSteps:=9^9) (disch:=omega) only[go_sem,simprocAttr,d1,d2,d3,d4]
      simp only[ckR,ckRng];grind
     ·have d4:decide (0≤s∧s≤0)=false:=decide_eq_false c4
      simp -implicitDefEqProofs (maxSteps:=9^9) (disch:=omega) only[go_sem,simprocAttr,d1,d2,d3,d4]
      simp only[ckR,ckRng];grind
    ·by_cases c4:1≤s∧s≤20
     ·have d4:decide (1≤s∧s≤20)=true:=decide_eq_true c4
      simp -implicitDefEqProofs (maxSteps:=9^9) (disch:=omega) only[go_sem,simprocAttr,d1,d2,d3,d4]
      simp only[ckR,ckRng];grind
     ·have d4:decide (1≤s∧s≤20)=false:=decide_eq_false c4
      simp -implicitDefEqProofs (maxSteps:=9^9) (disch:=omega) only[go_sem,simprocAttr,d1,d2,d3,d4]
      simp only[ckR,ckRng];grind
   ·have d3:decide (0≤b∧b≤m-1)=false:=decide_eq_false c3
    simp -implicitDefEqProofs (maxSteps:=9^9) (disch:=omega) only[go_sem,simprocAttr,d1,d2,d3]
    simp only[ckR,ckRng];grind
  ·have d2:decide (0≤a∧a≤m-1)=false:=decide_eq_false c2
   simp -implicitDefEqProofs (maxSteps:=9^9) (disch:=omega) only[go_sem,simprocAttr,d1,d2]
   simp only[ckR];grind
 ·have d1:decide (1≤k∧k≤3)=false:=decide_eq_false c1
  simp -implicitDefEqProofs (maxSteps:=9^9) (disch:=omega) only[go_sem,simprocAttr,d1]
  simp only[ckR];grind
def rreading_s:=spec2 tRd tI fun r m=>if 0≤m∧m≤4294967296 then some (.int .i64 (ckR r m)) else none
theorem rreading_ok:∀xs v,rreading_s xs=some v→PureV S 196 xs v:=
 spec2_ok fun r m v h=>by have h:=someIf h;rw[← h.2];exact rreading_p r m h.1.1 h.1.2
def fs103(f:FuncId)(xs:List AV):Option AV:=if f=196 then rreading_s xs else fs102 f xs
theorem fs103_ok{S:MC Tryz.prog}:∀f xs v,fs103 f xs=some v→PureV S f xs v:=by
 intro f xs v h
 unfold fs103 at h
 split at h
 ·rename_i e;subst e;exact rreading_ok _ _ h
 exact fs102_ok _ _ _ h
attribute [go_sem] fs103 rreading_s
theorem ckT_eq(x:Rng):ckT x=if ckRng x 1 100000≠0 then ckRng x 1 100000 else if x.hi-x.lo>20 then 1 else 0:=by simp only[ckT,ckRng];grind
theorem ckRng_ok{x:Rng}{lo hi:Int}(h:ckRng x lo hi=0):lo≤x.lo∧x.lo≤x.hi∧x.hi≤hi:=by simp only[ckRng] at h;grind
theorem rcheck_p(e:Ear)(h1:e.tones.length≤4294967296)(h2:e.rds.length≤4294967296):PureV S 148 [e.av] (.int .i64 (ck e)):=by
 refine PvE (Tryz.envOK (S:=S) 72 Tryz.ord148 fs103 fs103_ok) (.int) Tryz.kp148 Tryz.func148 rfl ?_
 intro σ
 obtain⟨s,ts,rs⟩:=e
 simp only[Ear.av] at *
 by_cases g0:0≤s∧s≤3
 ·have d0:decide (0≤s∧s≤3)=true:=decide_eq_true g0
  simp -implicitDefEqProofs (maxSteps:=9^9) (disch:=omega) only[go_sem,simprocAttr,d0]
  refine⟨fun g3=>?_,fun g3=>⟨fun g4=>?_,fun g4=>?_⟩⟩
  ·simp only[ck];grind
  ·simp only[ck];grind
  ·refine ARun.forS (Tryz.envOK (S:=S) 72 Tryz.ord148 fs103 fs103_ok) ts.length (fun i=>firstE ckT (ts.drop i)=firstE ckT ts) (fun i=>[(3,.int .i64 i)]) (fun _ j=>σ++(.cells [.int .i64 s,.list .no 2 (ts.map Rng.av),.list .no 6 (rs.map Rd.av)]::j)) [] (by kernel_rfl) rfl (by simp[upd,ins,subF,lookA]) rfl ?_ ?_
   ·intro i j hi hp ih
    rw[firstE_drop hi] at hp
    by_cases q0:ckRng ts[i] 1 100000=0
    ·obtain⟨q1,q2,q3⟩:=ckRng_ok q0
     simp -implicitDefEqProofs (maxSteps:=9^9) (disch:=omega) only[go_sem,simprocAttr,Rng.av,q0]
     refine⟨fun q=>?_,fun q=>?_⟩
     ·have hz:ckT ts[i]=1:=by rw[ckT_eq,if_neg (by simp[q0]),if_pos q]
      simp only[ck];grind
     ·have hz:ckT ts[i]=0:=by rw[ckT_eq,if_neg (by simp[q0]),if_neg q]
      rw[if_pos hz] at hp
      first
       | exact(ih hp j).castS rfl (by simp[upd,ins,subF,lookA])
       | exact(ih hp (j++[_])).castS rfl (by simp[upd,ins,subF,lookA])
    ·have hz:ckT ts[i]=ckRng ts[i] 1 100000:=by rw[ckT_eq,if_pos q0]
     simp -implicitDefEqProofs (maxSteps:=9^9) (disch:=omega) only[go_sem,simprocAttr,Rng.av,q0]
     rw[← hz] at q0⊢
     simp only[ck];grind
   ·intro j hp
    rw[firstE_end] at hp
    simp -implicitDefEqProofs (maxSteps:=9^9) (disch:=omega) only[go_sem,simprocAttr]
    refine⟨fun q1=>?_,fun q1=>?_⟩
    ·simp only[ck];grind
    ·refine ARun.forS (Tryz.envOK (S:=S) 72 Tryz.ord148 fs103 fs103_ok) rs.length (fun i=>firstE (fun r=>ckR r ts.length) (rs.drop i)=firstE (fun r=>ckR r ts.length) rs) (fun i=>[(5,.int .i64 i)]) (fun _ j=>σ++(.cells [.int .i64 s,.list .no 2 (ts.map Rng.av),.list .no 6 (rs.map Rd.av)]::j)) j (by kernel_rfl) rfl (by simp[upd,ins,subF,lookA]) rfl ?_ ?_
     ·intro i j hi hp2 ih
      rw[firstE_drop hi] at hp2
      simp -implicitDefEqProofs (maxSteps:=9^9) (disch:=omega) only[go_sem,simprocAttr,Rd.av]
      refine⟨fun q2=>?_,fun q2=>?_⟩
      ·simp only[ck];grind
      ·rw[if_pos (by grind)] at hp2
       first
        | exact(ih hp2 j).castS rfl (by simp[upd,ins,subF,lookA])
        | exact(ih hp2 (j++[_])).castS rfl (by simp[upd,ins,subF,lookA])
     ·intro j hp2
      rw[firstE_end] at hp2
      simp -implicitDefEqProofs (maxSteps:=9^9) (disch:=omega) only[go_sem,simprocAttr]
      simp only[ck];grind
 ·have d0:decide (0≤s∧s≤3)=false:=decide_eq_false g0
  simp -implicitDefEqProofs (maxSteps:=9^9) (disch:=omega) only[go_sem,simprocAttr,d0]
  simp only[ck];grind
def rcheck_s:=spec1 tEar fun e=>if e.tones.length≤4294967296∧e.rds.length≤4294967296 then some (.int .i64 (ck e)) else none
theorem rcheck_ok:∀xs v,rcheck_s xs=some v→PureV S 148 xs v:=
 spec1_ok fun e v h=>by have h:=someIf h;rw[← h.2];exact rcheck_p e h.1.1 h.1.2
def fs104(f:FuncId)(xs:List AV):Option AV:=if f=148 then rcheck_s xs else fs103 f xs
theorem fs104_ok{S:MC Tryz.prog}:∀f xs v,fs104 f xs=some v→PureV S f xs v:=by
 intro f xs v h
 unfold fs104 at h
 split at h
 ·rename_i e;subst e;exact rcheck_ok _ _ h
 exact fs103_ok _ _ _ h
attribute [go_sem] fs104 rcheck_s
theorem rdist_p(a b:Int)(ha:0≤a∧a≤1000000)(hb:0≤b∧b≤1000000):PureV S 240 [.int .i64 a,.int .i64 b] (.int .i64 (dist a b)):=by
 refine PvE (Tryz.envOK (S:=S) 12 (fun _=>([],[])) fs0 fs0_ok) (.int) Tryz.kp240 Tryz.func240 rfl ?_
 intro σ
 simp -implicitDefEqProofs (maxSteps:=9^9) (disch:=omega) only[go_sem,simprocAttr]
 simp only[dist];grind
def rdist_s:=spec2 tI tI fun a b=>if(0≤a∧a≤1000000)∧(0≤b∧b≤1000000) then some (.int .i64 (dist a b)) else none
theorem rdist_ok:∀xs v,rdist_s xs=some v→PureV S 240 xs v:=
 spec2_ok fun a b v h=>by have h:=someIf h;rw[← h.2];exact rdist_p a b h.1.1 h.1.2
def fs105(f:FuncId)(xs:List AV):Option AV:=if f=240 then rdist_s xs else fs104 f xs
theorem fs105_ok{S:MC Tryz.prog}:∀f xs v,fs105 f xs=some v→PureV S f xs v:=by
 intro f xs v h
 unfold fs105 at h
 split at h
 ·rename_i e;subst e;exact rdist_ok _ _ h
 exact fs104_ok _ _ _ h
attribute [go_sem] fs105 rdist_s
theorem rtrue_p(sl:Int)(T:List Int)(r:Rd)(hs:small T)(hr:okR r)(ha:r.a<T.length)(hb:r.kind≠1→r.b<T.length)(hsl:0≤sl∧sl≤3)(hT:T.length≤4294967296):PureV S 237 [.int .i64 sl,.list .no 1 (T.map (.int .i64)),r.av] (.bool (isR r sl T)):=by
 refine PvE (Tryz.envOK (S:=S) 76 Tryz.ord237 fs105 fs105_ok) (.bool) Tryz.kp237 Tryz.func237 rfl ?_
 intro σ
 obtain⟨h1,h2,h3,h4,h5,h6⟩:=hr
 obtain⟨k,a,b,s,⟨x,y⟩⟩:=r
 simp only at h1 h2 h3 h4 h5 h6 ha hb
 have ja:=small_tg hs a
 have jb:=small_tg hs b
 have ia:idx (T.map (AV.int .i64)) a=some (.int .i64 (tg T a)):=idx_tg h2.1 ha
 have ma:=mul_le ja h4
 have md:=mul_le (dist_le ja jb) h4
 have wa:IntKind.i64.wrap (tg T a*s)=tg T a*s:=wrap64 (by omega) (by omega)
 have wd:IntKind.i64.wrap (dist (tg T a) (tg T b)*s)=dist (tg T a) (tg T b)*s:=wrap64 (by omega) (by omega)
 simp only[Rd.av]
 by_cases k1:k=1
 ·subst k1
  clear hb md wd jb
  generalize tg T a*s=q at ma
  simp -implicitDefEqProofs (maxSteps:=9^9) (disch:=omega) only[go_sem,simprocAttr,ia,wa]
  unfold isR;rw[if_pos rfl]
  grind
 ·have ib:idx (T.map (AV.int .i64)) b=some (.int .i64 (tg T b)):=idx_tg h3.1 (hb k1)
  by_cases k2:k=2
  ·subst k2
   simp -implicitDefEqProofs (maxSteps:=9^9) (disch:=omega) only[go_sem,simprocAttr,ia,ib,wd]
   unfold isR;rw[if_neg (by simp),if_pos rfl]
   grind
  ·simp -implicitDefEqProofs (maxSteps:=9^9) (disch:=omega) only[go_sem,simprocAttr,ia,ib]
   unfold isR;rw[if_neg k1,if_neg k2]
   grind
def okI(r:Rd)(m:Int):Prop:=r.a<m∧(r.kind≠1→r.b<m)
instance (r:Rd)(m:Int):Decidable (okI r m):=by unfold okI;infer_instance
def rtrue_s:=spec3 tI tIs tRd fun sl T r=>if small T∧okR r∧okI r T.length∧(0≤sl∧sl≤3)∧T.length≤4294967296 then some (.bool (isR r sl T)) else none
theorem rtrue_ok:∀xs v,rtrue_s xs=some v→PureV S 237 xs v:=
 spec3_ok fun sl T r v h=>by have h:=someIf h;rw[← h.2];exact rtrue_p sl T r h.1.1 h.1.2.1 h.1.2.2.1.1 h.1.2.2.1.2 h.1.2.2.2.1 h.1.2.2.2.2
def fs106(f:FuncId)(xs:List AV):Option AV:=if f=237 then rtrue_s xs else fs105 f xs
theorem fs106_ok{S:MC Tryz.prog}:∀f xs v,fs106 f xs=some v→PureV S f xs v:=by
 intro f xs v h
 unfold fs106 at h
 split at h
 ·rename_i e;subst e;exact rtrue_ok _ _ h
 exact fs105_ok _ _ _ h
attribute [go_sem] fs106 rtrue_s
theorem ckR_idx{r:Rd}{m:Int}(h:ckR r m=0):r.a<m∧(r.kind≠1→r.b<m):=by simp only[ckR] at h;grind
theorem ck_rd{e:Ear}(h:ck e=0):∀r∈e.rds,ckR r e.tones.length=0:=by
 simp only[ck] at h
 exact firstE_all (f:=fun r=>ckR r e.tones.length) (by grind)
theorem rfits_p(e:Ear)(T:List Int)(hc:ck e=0)(hT:T.length=e.tones.length)(hs:small T):PureV S 224 [e.av,.list .no 1 (T.map (.int .i64))] (.bool (e.rds.all fun r=>isR r e.slack T)):=by
 refine PvE (Tryz.envOK (S:=S) 23 Tryz.ord224 fs106 fs106_ok) (.bool) Tryz.kp224 Tryz.func224 rfl ?_
 intro σ
 have he:=okE_of_ck hc
 have hrd:=ck_rd hc
 have hlen:=he.len
 have hrl:=he.rl
 have hsl:=he.sl
 obtain⟨sl,ts,rs⟩:=e
 simp only at hT hrd hlen hrl hsl
 simp only[Ear.av]
 simp -implicitDefEqProofs (maxSteps:=9^9) (disch:=omega) only[go_sem,simprocAttr]
 refine ARun.forS (Tryz.envOK (S:=S) 23 Tryz.ord224 fs106 fs106_ok) rs.length (fun i=>((rs.drop i).all fun r=>isR r sl T)=rs.all fun r=>isR r sl T) (fun i=>[(5,.int .i64 i)]) (fun _ _=>σ++[.cells [.int .i64 sl,.list .no 2 (ts.map Rng.av),.list .no 6 (rs.map Rd.av)]]) [] (by kernel_rfl) rfl (by simp[upd,ins,subF,lookA]) rfl ?_ ?_
 ·intro i j hi hp ih
  have hck:=hrd _ (List.getElem_mem hi)
  have hok:okR rs[i]:=he.rd _ (List.getElem_mem hi)
  obtain⟨x1,x2⟩:=ckR_idx hck
  rw[← hT] at x1 x2
  have hri:idx (rs.map Rd.av) (i:Int)=some rs[i].av:=by rw[idx_nat hi]
  rw[drop_cons hi,List.all_cons] at hp
  have hpre:small T∧okR rs[i]∧okI rs[i] T.length∧(0≤sl∧sl≤3)∧T.length≤4294967296:=⟨hs,hok,⟨x1,x2⟩,hsl,by omega⟩
  clear hck hok x1 x2 hrd he hc
  generalize rs[i]=y at hri hp hpre
  obtain⟨y1,y2,y3,y4,⟨y5,y6⟩⟩:=y
  obtain⟨p1,p2,p3,p4,p5⟩:=hpre
  clear hs hsl
  cases hb:isR ⟨y1,y2,y3,y4,⟨y5,y6⟩⟩ sl T
  ·rw[hb,Bool.false_and] at hp
   rw[← hp]
   simp -implicitDefEqProofs (maxSteps:=9^9) (disch:=omega) only[go_sem,simprocAttr,hri,Rd.av,p1,p2,p3,p4,p5,hb]
  ·rw[hb,Bool.true_and] at hp
   simp -implicitDefEqProofs (maxSteps:=9^9) (disch:=omega) only[go_sem,simprocAttr,hri,Rd.av,p1,p2,p3,p4,p5,hb]
   exact(ih hp []).castS rfl (by simp[upd,ins,subF,lookA])
 ·intro j hp
  rw[List.drop_length] at hp
  rw[← hp]
  simp -implicitDefEqProofs (maxSteps:=9^9) (disch:=omega) only[go_sem,simprocAttr]
end Go.Proofs
