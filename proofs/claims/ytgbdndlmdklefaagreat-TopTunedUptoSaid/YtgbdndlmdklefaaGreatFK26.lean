/- Texts of a proof: lemmas. -/
import Derived.Test.YtgbdndlmdklefaaGreatFK24
import Derived.Test.YtgbdndlmdklefaaGreatFK16
import Derived.Test.YtgbdndlmdklefaaGreatFK25
import Derived.Test.YtgbdndlmdklefaaGreatFK21
import Derived.Laws.Bits64
import Derived.Laws.BitsLemmas
set_option linter.unusedSimpArgs false
set_option linter.unusedVariables false
set_option maxRecDepth 100000
set_option maxHeartbeats 40000000
namespace Go.Proofs
open Go Go.Mu
variable {S:MC Tryz.prog}
def hin_s:=spec3 tI tI tI fun n lo hi=>some (.bool (decide (lo≤n∧n≤hi)))
theorem hin_ok:∀xs v,hin_s xs=some v→PureV S 99 xs v:=by
 refine spec3_ok fun n lo hi v h=>?_
 simp only[Option.some.injEq] at h;subst h
 refine PvE (Tryz.envOK (S:=S) 15 (fun _=>([],[])) fs0 fs0_ok) (.bool) Tryz.kp99 Tryz.func99 rfl ?_
 intro σ
 simp only[tI]
 simp -implicitDefEqProofs (maxSteps:=9^9) (disch:=omega) only[go_sem,simprocAttr]
 refine⟨fun h1=>⟨fun h2=>?_,fun h2=>?_⟩,fun h1=>?_⟩<;> simp[h1, *]
def fs400(f:FuncId)(xs:List AV):Option AV:=if f=99 then hin_s xs else fs8 f xs
theorem fs400_ok{S:MC Tryz.prog}:∀f xs v,fs400 f xs=some v→PureV S f xs v:=by
 intro f xs v h
 unfold fs400 at h
 split at h
 ·rename_i e;subst e;exact hin_ok _ _ h
 exact fs8_ok _ _ _ h
attribute [go_sem] fs400 hin_s
def chkE(x:Tn)(hands:Int):List Int×Int:=
 if¬(0≤x.day∧x.day≤60) then([],1) else if¬(-1≤x.hand∧x.hand≤hands-1) then([],3) else if¬(1≤x.due∧x.due≤100000) then([],1)
 else if ck x.ear≠0 then([],ck x.ear) else if 1<x.ear.tones.length then([],6) else((valuesL x.ear 0).1.map (· - x.due),(valuesL x.ear 0).2)
theorem _root_.Go.Mu.ACalls.wkW{P:Program}{S:MC P}{f:FuncId}{args:List AV}{σ:List AObj}{Q:AV→List AObj→Prop}(h:ACalls S f args σ fun v σ'=>∃v',Weak v v'∧Q v' σ'):ACalls S f args σ Q:=
 ⟨h.1,fun M hM K w V cargs kd cs hR hO hV=>M.bind (h.2 M hM K w V cargs kd cs hR hO hV) fun g' w' V' ⟨fr,v,σ',K',e1,e2,e3,hl,⟨v',hw,hq⟩,r1,r2,r3⟩=>M.ret ⟨fr,v',σ',K',e1,e2,e3,hl.mono fun c hc=>hw _ _ _ hc,hq,r1,r2,r3⟩⟩
theorem weak_nil{sz:Nat}:Weak (.list .full sz []) (ints1 []):=fun K n c h=>by
 cases h with
 | list _ _ _ a cap f hl ht ha hs h1 h=>exact .list .no 1 [] a cap f hl trivial (fun h=>absurd rfl h) (fun i hi=>by simp at hi) (fun i j hi=>by simp at hi) (fun i j hi=>by simp at hi)
theorem valuesL_le{e:Ear}(hk:ck e=0)(ha:(askL e (oneE e 0)).2=0)(ht:e.tones.length≤1):(∀y∈(valuesL e 0).1, -1000000≤y∧y≤1000000)∧(valuesL e 0).1.length≤1000000:=by
 have he:=okE_of_ck hk
 have hv:(valuesL e 0).1=sortL (firstsL ((truthsL e).map fun t=>tg t 0)):=by unfold valuesL;rw[if_pos ha]
 rw[hv]
 refine⟨fun y hy=>?_,?_⟩
 ·unfold sortL firstsL at hy
  rw[List.mem_mergeSort,addN_mem] at hy
  rcases hy with hy | hy
  ·simp at hy
  ·obtain⟨t,ht',rfl⟩:=List.mem_map.1 hy
   obtain⟨h3,hs⟩:=truthsL_ok he t ht'
   match t,h3 with
   | [a,b,c],_=>
    have:=hs a (by simp)
    simp[tg];omega
 ·rw[sortL_len]
  refine Nat.le_trans (addN_len _ []) ?_
  have:=truthsL_len he
  simp;omega
theorem chkV_c(day hand due sl:Int)(ts:List Rng)(rs:List Rd)(hands:Int)(hh:0≤hands∧hands≤1000000)(h1:ts.length≤1000000)(h2:rs.length≤1000000)(c1:0≤day∧day≤60)(c2: -1≤hand∧hand≤hands-1)(c3:1≤due∧due≤100000)
  (c4:ck ⟨sl,ts,rs⟩= 0) (c5:¬1<ts.length) (hk:(askL ⟨sl,ts,rs⟩ (oneE ⟨sl,ts,rs⟩ 0)).2=0) (hb:∀y∈(valuesL ⟨sl,ts,rs⟩ 0).1, -1000000≤y∧y≤1000000) (hl:(valuesL ⟨sl,ts,rs⟩ 0).1.length≤1000000) {σ:List AObj} {Q:AV→List AObj→Prop} (hQ:∀σ',Q (.tup [ints1 ((valuesL ⟨sl,ts,rs⟩ 0).1.map (· - due)),.int .i64 0]) σ') :
  ACalls S 117 [.agg [.int .i64 day,.int .i64 hand,.int .i64 due,.int .i64 sl,.list .no 2 (ts.map Rng.av),.list .no 6 (rs.map Rd.av)],.int .i64 hands] σ Q:=by
 have hw:IntKind.i64.wrap (hands-1)=hands-1:=wrap64 (by omega) (by omega)
 have d1:decide (0≤day∧day≤60)=true:=decide_eq_true c1
 have d2:decide (-1≤hand∧hand≤hands-1)=true:=decide_eq_true c2
 have d3:decide (1≤due∧due≤100000)=true:=decide_eq_true c3
 have d5:((1:Int)<ts.length)=False:=by simp;omega
 refine ACalls.frozeT ?_
 refine AcE (Tryz.envOK (S:=S) 60 Tryz.ord117 fs400 fs400_ok) Tryz.kp117 Tryz.func117 rfl ?_
 simp -implicitDefEqProofs (maxSteps:=9^9) (disch:=omega) only[go_sem,simprocAttr,d1,d2,d3,hw,c4,d5]
 refine values1_v ⟨sl,ts,rs⟩ 0 (by simp only;omega) (by simp only;omega) (by simp only;omega) hk fun mm j=>?_
 generalize (valuesL ⟨sl,ts,rs⟩ 0).1=L at hb hl hQ⊢
 simp only[Ear.cells]
 simp -implicitDefEqProofs (maxSteps:=9^9) (disch:=omega) only[go_sem,simprocAttr]
 have e3:σ.length+1+2=σ.length+3:=rfl
 rw[e3]
 refine ARun.forJ (Tryz.envOK (S:=S) 60 Tryz.ord117 fs400 fs400_ok) L.length (fun i τ=>∃Z:List Int,Z=(L.take i).map (· - due)++L.drop i∧τ=σ++(.cells [.int .i64 day,.int .i64 hand,.int .i64 due,.int .i64 sl,.list .no 2 (ts.map Rng.av),.list .no 6 (rs.map Rd.av)]:: .cells [.int .i64 sl,.list .no 2 (ts.map Rng.av),.list .no 6 (rs.map Rd.av)]:: .map mm:: .vec 1 (Z.map (.int .i64))::j)) (fun i=>[(46,.int .i64 i)]) (by kernel_rfl) (by simp[upd,ins,subF,lookA]) ⟨L,by simp,by simp⟩ ?_ ?_
 ·rintro i τ hi ⟨Z,hZ,rfl⟩ ih
  have hzl:Z.length=L.length:=by rw[hZ];simp;omega
  have hzi:tg Z i=L[i]:=by
   have:Z[i]? = some L[i]:=by
    rw[hZ,List.getElem?_append_right (by simp;omega)]
    simp[show i-min i L.length=0 by omega,hi]
   simp[tg,List.getD_eq_getElem?_getD,this]
  have hzs:Z.set i (L[i]-due)=(L.take (i+1)).map (· - due)++L.drop (i+1):=by
   have e0:i- ((L.take i).map (· - due)).length=0:=by simp;omega
   rw[hZ,List.set_append_right _ _ (by simp;omega),e0,List.drop_eq_getElem_cons hi,List.set_cons_zero,List.take_succ_eq_append_getElem hi,List.map_append,List.append_assoc]
   rfl
  have hbi:=hb L[i] (List.getElem_mem hi)
  have hwi:IntKind.i64.wrap (L[i]-due)=L[i]-due:=wrap64 (by omega) (by omega)
  clear hZ
  rw[← hzl] at hi
  simp -implicitDefEqProofs (maxSteps:=9^9) (disch:=omega) only[go_sem,simprocAttr,hzl,hzi,hwi]
  exact(ih _ ⟨Z.set i (L[i]-due),hzs,rfl⟩).castS (by rw[Int.toNat_natCast,List.map_set]) (by simp[upd,ins,subF,lookA])
 ·rintro τ ⟨Z,hZ,rfl⟩
  have hZ':Z=L.map (· - due):=by rw[hZ];simp
  have hzl:Z.length=L.length:=by rw[hZ'];simp
  simp -implicitDefEqProofs (maxSteps:=9^9) (disch:=omega) only[go_sem,simprocAttr]
  refine⟨_,0,σ.length+3,1,Z.map (.int .i64),rfl,by simp[hzl],by rw[hget_at];rfl,?_⟩
  rw[hZ']
  exact hQ _
theorem chkE_c(x:Tn)(hands:Int)(hh:0≤hands∧hands≤1000000)(h1:x.ear.tones.length≤1000000)(h2:x.ear.rds.length≤1000000){σ:List AObj}{Q:AV→List AObj→Prop}(hQ:∀σ',Q (.tup [ints1 (chkE x hands).1,.int .i64 (chkE x hands).2]) σ') :
  ACalls S 117 [x.av,.int .i64 hands] σ Q:=by
 obtain⟨day,hand,due,ear⟩:=x
 obtain⟨sl,ts,rs⟩:=ear
 simp only at h1 h2
 refine ACalls.wkW ?_
 have hnil:∀v e,(chkE ⟨day,hand,due,⟨sl,ts,rs⟩⟩ hands)=([],e)→∀σ',∃v',Weak (.tup [.list .full v [],.int .i64 e]) v'∧Q v' σ':=by
  intro v e he σ'
  rw[he] at hQ
  refine⟨_,Weak.tup (cs':=[ints1 [],.int .i64 e]) rfl (fun i hi hi'=>?_),hQ σ'⟩
  match i,hi with
  | 0,_=>exact weak_nil
  | 1,_=>exact Weak.refl _
 simp only[Tn.av,Tn.cells]
 have hw:IntKind.i64.wrap (hands-1)=hands-1:=wrap64 (by omega) (by omega)
 by_cases hgo:(0≤day∧day≤60)∧(-1≤hand∧hand≤hands-1)∧(1≤due∧due≤100000)∧ck ⟨sl,ts,rs⟩= 0∧¬1<ts.length∧(askL ⟨sl,ts,rs⟩ (oneE ⟨sl,ts,rs⟩ 0)).2=0
 ·obtain⟨g1,g2,g3,g4,g5,g6⟩:=hgo
  have hv2:(valuesL ⟨sl,ts,rs⟩ 0).2=0:=by unfold valuesL;rw[if_pos g6]
  have hch:chkE ⟨day,hand,due,⟨sl,ts,rs⟩⟩ hands=((valuesL ⟨sl,ts,rs⟩ 0).1.map (· - due),0):=by
   simp only[chkE];rw[if_neg (fun h=>h g1),if_neg (fun h=>h g2),if_neg (fun h=>h g3),if_neg (fun h=>h g4),if_neg g5,hv2]
  rw[hch] at hQ
  have hvl:=valuesL_le (e:=⟨sl,ts,rs⟩) g4 g6 (by simp only;omega)
  exact chkV_c day hand due sl ts rs hands hh h1 h2 g1 g2 g3 g4 g5 g6 hvl.1 hvl.2 fun σ'=>⟨_,Weak.refl _,hQ σ'⟩
 refine AcE (Tryz.envOK (S:=S) 60 Tryz.ord117 fs400 fs400_ok) Tryz.kp117 Tryz.func117 rfl ?_
 rcases(Classical.em (0≤day∧day≤60)).symm with c1 | c1
 ·have d1:decide (0≤day∧day≤60)=false:=decide_eq_false c1
  simp -implicitDefEqProofs (maxSteps:=9^9) (disch:=omega) only[go_sem,simprocAttr,d1,hw]
  exact hnil _ _ (by simp only[chkE];rw[if_pos c1]) _
 have d1:decide (0≤day∧day≤60)=true:=decide_eq_true c1
 rcases(Classical.em (-1≤hand∧hand≤hands-1)).symm with c2 | c2
 ·have d2:decide (-1≤hand∧hand≤hands-1)=false:=decide_eq_false c2
  simp -implicitDefEqProofs (maxSteps:=9^9) (disch:=omega) only[go_sem,simprocAttr,d1,d2,hw]
  exact hnil _ _ (by simp only[chkE];rw[if_neg (fun h=>h c1),if_pos c2]) _
 have d2:decide (-1≤hand∧hand≤hands-1)=true:=decide_eq_true c2
 rcases(Classical.em (1≤due∧due≤100000)).symm with c3 | c3
 ·have d3:decide (1≤due∧due≤100000)=false:=decide_eq_false c3
  simp -implicitDefEqProofs (maxSteps:=9^9) (disch:=omega) only[go_sem,simprocAttr,d1,d2,d3,hw]
  exact hnil _ _ (by simp only[chkE];rw[if_neg (fun h=>h c1),if_neg (fun h=>h c2),if_pos c3]) _
 have d3:decide (1≤due∧due≤100000)=true:=decide_eq_true c3
 have hkE:∀k,ck ⟨sl,ts,rs⟩= k→k≠0→chkE ⟨day,hand,due,⟨sl,ts,rs⟩⟩ hands=([],k):=fun k hk hne=>by
  simp only[chkE];rw[if_neg (fun h=>h c1),if_neg (fun h=>h c2),if_neg (fun h=>h c3),hk,if_pos hne]
 by_cases c4:ck ⟨sl,ts,rs⟩= 0
 ·have hm:¬1<ts.length→chkE ⟨day,hand,due,⟨sl,ts,rs⟩⟩ hands=((valuesL ⟨sl,ts,rs⟩ 0).1.map (· - due),(valuesL ⟨sl,ts,rs⟩ 0).2):=fun h=>by
   simp only[chkE];rw[if_neg (fun h=>h c1),if_neg (fun h=>h c2),if_neg (fun h=>h c3),if_neg (fun h=>h c4),if_neg h]
  by_cases c5:1<ts.length
  ·have d5:((1:Int)<ts.length)=True:=by simp;omega
   simp -implicitDefEqProofs (maxSteps:=9^9) (disch:=omega) only[go_sem,simprocAttr,d1,d2,d3,hw,c4,d5]
   exact hnil _ _ (by simp only[chkE];rw[if_neg (fun h=>h c1),if_neg (fun h=>h c2),if_neg (fun h=>h c3),if_neg (fun h=>h c4),if_pos c5]) _
  ·have hk:¬(askL ⟨sl,ts,rs⟩ (oneE ⟨sl,ts,rs⟩ 0)).2=0:=fun h=>hgo ⟨c1,c2,c3,c4,c5,h⟩
   have d5:((1:Int)<ts.length)=False:=by simp;omega
   simp -implicitDefEqProofs (maxSteps:=9^9) (disch:=omega) only[go_sem,simprocAttr,d1,d2,d3,hw,c4,d5]
   refine values1_p ⟨sl,ts,rs⟩ 0 (by simp only;omega) (by simp only;omega) (by simp only;omega) _ _ ?_
   have hv:valuesL ⟨sl,ts,rs⟩ 0=([],(askL ⟨sl,ts,rs⟩ (oneE ⟨sl,ts,rs⟩ 0)).2):=by unfold valuesL;rw[if_neg hk]
   rw[hm c5,hv] at hQ
   rw[hv]
   simp only[List.map_nil]
   simp -implicitDefEqProofs (maxSteps:=9^9) (disch:=omega) only[go_sem,simprocAttr]
   refine ARun.once (Tryz.envOK (S:=S) 60 Tryz.ord117 fs400 fs400_ok) (by kernel_rfl) ?_
   simp -implicitDefEqProofs (maxSteps:=9^9) (disch:=omega) only[go_sem,simprocAttr]
   exact⟨_,Weak.refl _,hQ _⟩
 ·have d4:(ck ⟨sl,ts,rs⟩= 0)=False:=by simp[c4]
  simp -implicitDefEqProofs (maxSteps:=9^9) (disch:=omega) only[go_sem,simprocAttr,d1,d2,d3,hw,d4]
  exact hnil _ _ (hkE _ rfl c4) _
end Go.Proofs
namespace Go.Proofs
open Go Go.Mu
structure Ros.Ok(r:Ros):Prop where
 hands:0≤r.hands∧r.hands≤1000000
 len:r.ents.length≤1048576
 ear:∀x∈r.ents,x.ear.tones.length≤1000000∧x.ear.rds.length≤1000000
def entsL(r:Ros):List (List Int):=r.ents.map fun x=>(chkE x r.hands).1
def entsE(r:Ros):Int:=firstNZ (r.ents.map fun x=>(chkE x r.hands).2)
theorem ents_p(r:Ros)(h:r.Ok):PureV SBes 147 [r.av] (.tup [.list .no 1 ((entsL r).map ints1),.int .i64 (entsE r)]):=by
 have:=entries_p chkE r h.len fun V₀ x hx Q hQ=>chkE_c x r.hands h.hands (h.ear x hx).1 (h.ear x hx).2 hQ
 simpa[entsL,entsE,List.map_map,Function.comp_def] using this
end Go.Proofs
namespace Go.Proofs
open Go Go.Mu
variable {S:MC Tryz.prog}
def setE(hands:Int)(s:Sg):Int:=if¬(0≤s.hand∧s.hand≤hands-1) then 3 else if¬(0≤s.day∧s.day≤60) then 1 else 0
def headE(r:Ros):Int:=
 if¬(1≤r.hands∧r.hands≤4)∨¬(0≤r.skill∧r.skill≤9)∨¬(-5≤r.mn∧r.mn≤5)∨¬(-5≤r.mx∧r.mx≤5) then 1
 else if r.mx<r.mn then 5 else if 4<r.sets.length then 6 else if firstE (setE r.hands) r.sets≠0 then firstE (setE r.hands) r.sets else if 5<r.ents.length then 6 else 0
theorem head_p(r:Ros)(h1:r.sets.length≤4294967296)(h2:r.ents.length≤4294967296):PureV S 146 [r.av] (.int .i64 (headE r)):=by
 refine PvE (Tryz.envOK (S:=S) 69 (fun _=>([],[])) fs400 fs400_ok) (.int) Tryz.kp146 Tryz.func146 rfl ?_
 intro σ
 obtain⟨hands,skill,mn,mx,sets,ents⟩:=r
 simp only[Ros.av]
 have hneg:IntKind.i64.wrap (-5)= -5:=wrap64 (by omega) (by omega)
 rcases(Classical.em (1≤hands∧hands≤4)).symm with c1 | c1
 ·have d1:decide (1≤hands∧hands≤4)=false:=decide_eq_false c1
  simp -implicitDefEqProofs (maxSteps:=9^9) (disch:=omega) only[go_sem,simprocAttr,d1]
  simp[headE,c1]
 have d1:decide (1≤hands∧hands≤4)=true:=decide_eq_true c1
 rcases(Classical.em (0≤skill∧skill≤9)).symm with c2 | c2
 ·have d2:decide (0≤skill∧skill≤9)=false:=decide_eq_false c2
  simp -implicitDefEqProofs (maxSteps:=9^9) (disch:=omega) only[go_sem,simprocAttr,d1,d2]
  simp[headE,c2]
 have d2:decide (0≤skill∧skill≤9)=true:=decide_eq_true c2
 simp -implicitDefEqProofs (maxSteps:=9^9) (disch:=omega) only[go_sem,simprocAttr,d1,d2,hneg]
 refine⟨fun q1 q2=>⟨fun q3 q4=>⟨fun q5=>?_,fun q5=>⟨fun q6=>?_,fun q6=>?_⟩⟩,fun q3=>?_⟩,fun q1=>?_⟩
 ·simp[headE,c1,c2,q1,q2,q3,q4,q5]
 ·have q6':4<sets.length:=by omega
  simp[headE,c1,c2,q1,q2,q3,q4,q5,q6']
 ·have q6':¬4<sets.length:=by omega
  have hH:headE ⟨hands,skill,mn,mx,sets,ents⟩= if firstE (setE hands) sets≠0 then firstE (setE hands) sets else if 5<ents.length then 6 else 0:=by
   simp[headE,c1,c2,q1,q2,q3,q4,q5,q6']
  have hw:IntKind.i64.wrap (hands-1)=hands-1:=wrap64 (by omega) (by omega)
  rw[hH]
  refine ARun.forS (Tryz.envOK (S:=S) 69 (fun _=>([],[])) fs400 fs400_ok) sets.length (fun i=>firstE (setE hands) (sets.drop i)=firstE (setE hands) sets) (fun i=>[(47,.int .i64 i)]) (fun _ j=>σ++(.cells [.int .i64 hands,.int .i64 skill,.int .i64 mn,.int .i64 mx,.list .no 2 (sets.map Sg.av),.list .no 6 (ents.map Tn.av)]::j)) [] (by kernel_rfl) (by simp) (by simp[upd,ins,subF,lookA]) (by simp) ?_ ?_
  ·intro i j hi hp ih
   rw[firstE_drop hi] at hp
   simp -implicitDefEqProofs (maxSteps:=9^9) (disch:=omega) only[go_sem,simprocAttr,Sg.av,hw]
   refine⟨fun p1 p2=>⟨fun p3 p4=>?_,fun p3=>?_⟩,fun p1=>?_⟩
   ·refine(ih ?_ (j++[_])).castS rfl (by simp[upd,ins,subF,lookA])
    rw[← hp];simp[setE,p1,p2,p3,p4]
   ·have e:setE hands sets[i]=1:=by simp only[setE];rw[if_neg (fun h=>h ⟨p1,p2⟩),if_pos p3]
    rw[← hp,e];simp
   ·have e:setE hands sets[i]=3:=by simp only[setE];rw[if_pos p1]
    rw[← hp,e];simp
  ·intro j hp
   rw[firstE_end] at hp
   rw[← hp]
   simp -implicitDefEqProofs (maxSteps:=9^9) (disch:=omega) only[go_sem,simprocAttr]
   refine⟨fun p1=>?_,fun p1=>?_⟩
   ·simp;omega
   ·simp;omega
 ·simp[headE,c1,c2,q1,q2,q3]
 ·simp[headE,c1,c2,q1]
end Go.Proofs
namespace Go.Proofs
open Go Go.Mu
def Ros.wav(r:Ros)(l:List (List Int)):AV:= .agg [.int .i64 r.hands,.int .i64 r.skill,.int .i64 r.mn,.int .i64 r.mx,.list .no 2 (r.sets.map Sg.av),.list .no 6 (r.ents.map Tn.av),.list .no 1 (l.map ints1)]
theorem Ros.wplain(r:Ros)(l:List (List Int)):Plain (r.wav l):= .agg (by
 simp only[List.mem_cons,List.not_mem_nil,or_false,forall_eq_or_imp,forall_eq]
 exact⟨.int,.int,.int,.int,.map fun y _=>y.plain,tns_plain _,.map fun x _=>Plain.cells_list (ints1_good x).2⟩)
theorem rosterOf_ok(r:Ros)(hh:headE r=0)(h1:r.sets.length≤4294967296)(hok:r.Ok):PureV SBes 103 [r.av] (.tup [r.wav (entsL r),.int .i64 (entsE r)]):=by
 refine PvE (Tryz.envOK (S:=SBes) 22 (fun _=>([],[])) fs0 fs0_ok) (.tup (by simp only[List.mem_cons,List.not_mem_nil,or_false,forall_eq_or_imp,forall_eq];exact⟨r.wplain _,.int⟩)) Tryz.kp103 Tryz.func103 rfl ?_
 intro σ
 simp only[Ros.av]
 simp -implicitDefEqProofs (maxSteps:=9^9) (disch:=omega) only[go_sem,simprocAttr]
 refine head_p r h1 (by have:=hok.len;omega) _ _ ?_
 rw[hh]
 simp -implicitDefEqProofs (maxSteps:=9^9) (disch:=omega) only[go_sem,simprocAttr]
 refine ents_p r hok _ _ ?_
 simp -implicitDefEqProofs (maxSteps:=9^9) (disch:=omega) only[go_sem,simprocAttr]
 simp[Ros.wav,wk1,wkL,wk0]
theorem rosterOf_err(r:Ros)(hh:headE r≠0)(h1:r.sets.length≤4294967296)(h2:r.ents.length≤4294967296):PureV SBes 103 [r.av] (.tup [(⟨0,0,0,0,[],[]⟩: Ros).wav [],.int .i64 (headE r)]):=by
 refine PvE (Tryz.envOK (S:=SBes) 22 (fun _=>([],[])) fs0 fs0_ok) (.tup (by simp only[List.mem_cons,List.not_mem_nil,or_false,forall_eq_or_imp,forall_eq];exact⟨Ros.wplain _ _,.int⟩)) Tryz.kp103 Tryz.func103 rfl ?_
 intro σ
 simp only[Ros.av]
 simp -implicitDefEqProofs (maxSteps:=9^9) (disch:=omega) only[go_sem,simprocAttr]
 refine head_p r h1 h2 _ _ ?_
 have hh':(headE r=0)=False:=by simp[hh]
 simp -implicitDefEqProofs (maxSteps:=9^9) (disch:=omega) only[go_sem,simprocAttr,hh']
 simp[Ros.wav,wk1,wkL,wk0]
end Go.Proofs
namespace Go.Proofs
open Go Go.Mu
variable {S:MC Tryz.prog}
def popN(m:Nat):Nat:=if h:m=0 then 0 else m%2+popN (m/2)
termination_by m
decreasing_by omega
theorem popN_zero:popN 0=0:=by rw[popN];rfl
theorem popN_step(m:Nat):popN m=m%2+popN (m/2):=by
 by_cases h:m=0
 ·subst h;rw[popN_zero]
 ·rw[popN,dif_neg h]
def popF(x:Nat):Nat:=
 let a:=((x/2&&&6148914691236517205)+(x&&&6148914691236517205))%18446744073709551616
 let b:=((a/4&&&3689348814741910323)+(a&&&3689348814741910323))%18446744073709551616
 let c:=(b/16+b)%18446744073709551616&&&1085102592571150095
 let d:=(c+c/256)%18446744073709551616
 let e:=(d+d/65536)%18446744073709551616
 let g:=(e+e/4294967296)%18446744073709551616
 g&&&127
def allB(f:Nat→Bool):Nat→Nat→Bool
 | 0,b=>f b
 | k+1,b=>allB f k (2*b)&&allB f k (2*b+1)
theorem allB_all{f:Nat→Bool}:∀{k b:Nat},allB f k b=true→∀i,i<2^k→f (b*2^k+i)=true
 | 0,b,h,i,hi=>by
  have:i=0:=by simpa using hi
  subst this
  rw[Nat.pow_zero,Nat.mul_one,Nat.add_zero];exact h
 | k+1,b,h,i,hi=>by
  simp only[allB,Bool.and_eq_true] at h
  rw[Nat.pow_succ] at hi⊢
  by_cases hl:i<2^k
  ·have:=allB_all h.1 i hl
   rwa [show 2*b*2^k=b*(2^k*2) by rw[Nat.mul_comm 2 b,Nat.mul_assoc,Nat.mul_comm 2]] at this
  ·have:=allB_all h.2 (i-2^k) (by omega)
   have e:(2*b+1)*2^k+(i-2^k)=b*(2^k*2)+i:=by
    rw[Nat.add_mul,Nat.mul_comm 2 b,Nat.mul_assoc,Nat.mul_comm 2,Nat.one_mul];omega
   rwa [e] at this
set_option maxRecDepth 1000000 in
theorem popF_chk:allB (fun x=>Nat.beq (popF x) (x%2+popF (x/2))) 16 0=true:=by kernel_rfl
theorem popF_eq:∀x,x<65536→popF x=popN x:=by
 intro x
 induction x using Nat.strongRecOn with
 | _ x ih=>
  intro hx
  by_cases h0:x=0
  ·subst h0;rw[popN_zero];rfl
  ·have h1:=allB_all popF_chk x (by omega)
   rw[Nat.zero_mul,Nat.zero_add] at h1
   have h2:=Nat.eq_of_beq_eq_true h1
   rw[h2,popN_step x,ih (x/2) (by omega) (by omega)]
theorem ofInt_nat(a:Nat):BitVec.ofInt 64 (a:Int)=BitVec.ofNat 64 a:=by simp
theorem and_nat(a M:Nat)(hM:M<2^64):(BitVec.ofNat 64 a&&&BitVec.ofNat 64 M).toNat=a&&&M:=by
 rw[BitVec.toNat_and,BitVec.toNat_ofNat,BitVec.toNat_ofNat]
 apply Nat.eq_of_testBit_eq
 intro i
 simp only[Nat.testBit_and,Nat.testBit_mod_two_pow]
 by_cases h:i<64
 ·simp[h]
 ·have:M.testBit i=false:=Nat.testBit_lt_two_pow (Nat.lt_of_lt_of_le hM (Nat.pow_le_pow_right (by omega) (by omega)))
  simp[this]
theorem shr_nat(a:Nat)(k:Nat):((a:Nat):Int).fdiv (2^k)=((a/2^k:Nat):Int):=by
 rw[Int.fdiv_eq_ediv_of_nonneg _ (Int.le_of_lt (Int.pow_pos (by omega)))]
 push_cast;rfl
theorem i64_ofInt(z:Int):BitVec.ofInt 64 (IntKind.i64.wrap z)=BitVec.ofInt 64 z:=by
 apply BitVec.eq_of_toNat_eq
 rw[BitVec.toNat_ofInt,BitVec.toNat_ofInt,IntKind.wrap_i64]
 have:(2^64:Int)=18446744073709551616:=by decide
 simp only[Nat.reducePow,Int.cast_ofNat_Int]
 omega
theorem i64_and(g:Nat):IntKind.i64.wrap (((BitVec.ofInt 64 (IntKind.i64.wrap (g:Int))&&&BitVec.ofInt 64 127).toNat:Nat):Int)=((g&&&127:Nat):Int):=by
 have e:BitVec.ofInt 64 127=BitVec.ofNat 64 127:=rfl
 rw[i64_ofInt,ofInt_nat,e,and_nat g 127 (by decide),IntKind.wrap_i64]
 have:g&&&127≤127:=Nat.and_le_right
 omega
theorem u64_nat(a:Nat):IntKind.u64.wrap ((a:Nat):Int)=((a%18446744073709551616:Nat):Int):=by rw[IntKind.wrap_u64];omega
theorem u64_add(a b:Nat):IntKind.u64.wrap ((a:Int)+(b:Int))=(((a+b)%18446744073709551616:Nat):Int):=by rw[IntKind.wrap_u64];omega
theorem u64_and(a M:Nat)(hM:M<2^64):IntKind.u64.wrap (((BitVec.ofInt 64 (a:Int)&&&BitVec.ofInt 64 (M:Int)).toNat:Nat):Int)=((a&&&M:Nat):Int):=by
 rw[ofInt_nat,ofInt_nat,and_nat a M hM,u64_nat,Nat.mod_eq_of_lt]
 exact Nat.lt_of_le_of_lt Nat.and_le_right hM
theorem pop_m0(a:Nat):IntKind.u64.wrap ((BitVec.toNat (w:=64) (@HAnd.hAnd (BitVec 64) (BitVec 64) (BitVec 64) (@instHAndOfAndOp (BitVec IntKind.u64.bits) (@BitVec.instAndOp IntKind.u64.bits)) (BitVec.ofInt 64 (a:Int)) (BitVec.ofInt 64 6148914691236517205)):Nat):Int)=((a&&&6148914691236517205:Nat):Int):=u64_and a 6148914691236517205 (by decide)
theorem pop_m1(a:Nat):IntKind.u64.wrap ((BitVec.toNat (w:=64) (@HAnd.hAnd (BitVec 64) (BitVec 64) (BitVec 64) (@instHAndOfAndOp (BitVec IntKind.u64.bits) (@BitVec.instAndOp IntKind.u64.bits)) (BitVec.ofInt 64 (a:Int)) (BitVec.ofInt 64 3689348814741910323)):Nat):Int)=((a&&&3689348814741910323:Nat):Int):=u64_and a 3689348814741910323 (by decide)
theorem pop_m2(a:Nat):IntKind.u64.wrap ((BitVec.toNat (w:=64) (@HAnd.hAnd (BitVec 64) (BitVec 64) (BitVec 64) (@instHAndOfAndOp (BitVec IntKind.u64.bits) (@BitVec.instAndOp IntKind.u64.bits)) (BitVec.ofInt 64 (a:Int)) (BitVec.ofInt 64 1085102592571150095)):Nat):Int)=((a&&&1085102592571150095:Nat):Int):=u64_and a 1085102592571150095 (by decide)
theorem pop_i(g:Nat):IntKind.i64.wrap ((BitVec.toNat (w:=64) (@HAnd.hAnd (BitVec 64) (BitVec 64) (BitVec 64) (@instHAndOfAndOp (BitVec IntKind.i64.bits) (@BitVec.instAndOp IntKind.i64.bits)) (BitVec.ofInt 64 (IntKind.i64.wrap (g:Int))) (BitVec.ofInt 64 127)):Nat):Int)=((g&&&127:Nat):Int):=i64_and g
theorem OnesCount64_p(x:Nat)(hx:x<65536):PureV S 232 [.int .u64 x] (.int .i64 (popN x)):=by
 refine PvE (Tryz.envOK (S:=S) 35 (fun _=>([],[])) fs0 fs0_ok) (.int) Tryz.kp232 Tryz.func232 rfl ?_
 intro σ
 rw[← popF_eq x hx]
 have s1:∀a:Nat,((a:Nat):Int).fdiv (2^min 1 64)=((a/2:Nat):Int):=fun a=>shr_nat a 1
 have s2:∀a:Nat,((a:Nat):Int).fdiv (2^min 2 64)=((a/4:Nat):Int):=fun a=>shr_nat a 2
 have s4:∀a:Nat,((a:Nat):Int).fdiv (2^min 4 64)=((a/16:Nat):Int):=fun a=>shr_nat a 4
 have s8:∀a:Nat,((a:Nat):Int).fdiv (2^min 8 64)=((a/256:Nat):Int):=fun a=>shr_nat a 8
 have s16:∀a:Nat,((a:Nat):Int).fdiv (2^min 16 64)=((a/65536:Nat):Int):=fun a=>shr_nat a 16
 have s32:∀a:Nat,((a:Nat):Int).fdiv (2^min 32 64)=((a/4294967296:Nat):Int):=fun a=>shr_nat a 32
 simp -implicitDefEqProofs (maxSteps:=9^9) (disch:=omega) only[go_sem,reduceCtorEq,Nat.reduceAdd,Nat.reduceSub,Nat.reduceMul,Nat.reduceLT,Nat.reduceLeDiff,Nat.reduceEqDiff,Nat.reduceBEq,Int.reduceToNat,Int.reduceLT,Int.reduceLE,Int.reduceEq,Int.reduceNeg,Int.reduceAdd,Int.reduceSub,Int.reduceMul,↓reduceIte,Int.reduceBEq,Int.reduceBNe,s1,s2,s4,s8,s16,s32,pop_m0,pop_m1,pop_m2,u64_add,pop_i]
 simp only[popF]
def popS:List AV→Option AV
 | [.int .u64 z]=>if 0≤z∧z<65536 then some (.int .i64 (popN z.toNat)) else none
 | _=>none
theorem popS_inv{xs:List AV}{v:AV}(h:popS xs=some v):∃x:Nat,x<65536∧xs=[.int .u64 x]∧v= .int .i64 (popN x):=by
 unfold popS at h
 split at h
 ·rename_i z
  have h:=someIf h
  refine⟨z.toNat,by omega,?_,h.2.symm⟩
  rw[Int.toNat_of_nonneg h.1.1]
 ·cases h
def oc64_s:=popS
theorem oc64_ok:∀xs v,oc64_s xs=some v→PureV S 232 xs v:=fun xs v h=>by
 obtain⟨x,h1,rfl,rfl⟩:=popS_inv h
 exact OnesCount64_p x h1
def fs401(f:FuncId)(xs:List AV):Option AV:=if f=232 then oc64_s xs else fs400 f xs
theorem fs401_ok{S:MC Tryz.prog}:∀f xs v,fs401 f xs=some v→PureV S f xs v:=by
 intro f xs v h
 unfold fs401 at h
 split at h
 ·rename_i e;subst e;exact oc64_ok _ _ h
 exact fs400_ok _ _ _ h
attribute [go_sem] fs401 oc64_s
attribute [go_sem] popS Int.toNat_natCast
theorem OnesCount_p(x:Nat)(hx:x<65536):PureV S 209 [.int .u64 x] (.int .i64 (popN x)):=by
 refine PvE (Tryz.envOK (S:=S) 8 (fun _=>([],[])) fs401 fs401_ok) (.int) Tryz.kp209 Tryz.func209 rfl ?_
 intro σ
 simp -implicitDefEqProofs (maxSteps:=9^9) (disch:=omega) only[go_sem,reduceCtorEq,Nat.reduceAdd,Nat.reduceSub,Nat.reduceMul,Nat.reduceLT,Nat.reduceLeDiff,Nat.reduceEqDiff,Nat.reduceBEq,Int.reduceToNat,Int.reduceLT,Int.reduceLE,Int.reduceEq,Int.reduceNeg,Int.reduceAdd,Int.reduceSub,Int.reduceMul,↓reduceIte,Int.reduceBEq,Int.reduceBNe]
def oc_s:=popS
theorem oc_ok:∀xs v,oc_s xs=some v→PureV S 209 xs v:=fun xs v h=>by
 obtain⟨x,h1,rfl,rfl⟩:=popS_inv h
 exact OnesCount_p x h1
def fs402(f:FuncId)(xs:List AV):Option AV:=if f=209 then oc_s xs else fs401 f xs
theorem fs402_ok{S:MC Tryz.prog}:∀f xs v,fs402 f xs=some v→PureV S f xs v:=by
 intro f xs v h
 unfold fs402 at h
 split at h
 ·rename_i e;subst e;exact oc_ok _ _ h
 exact fs401_ok _ _ _ h
attribute [go_sem] fs402 oc_s
theorem many_p(x:Nat)(hx:x<65536):PureV S 178 [.int .u64 x] (.int .i64 (popN x)):=by
 refine PvE (Tryz.envOK (S:=S) 5 (fun _=>([],[])) fs402 fs402_ok) (.int) Tryz.kp178 Tryz.func178 rfl ?_
 intro σ
 simp -implicitDefEqProofs (maxSteps:=9^9) (disch:=omega) only[go_sem,reduceCtorEq,Nat.reduceAdd,Nat.reduceSub,Nat.reduceMul,Nat.reduceLT,Nat.reduceLeDiff,Nat.reduceEqDiff,Nat.reduceBEq,Int.reduceToNat,Int.reduceLT,Int.reduceLE,Int.reduceEq,Int.reduceNeg,Int.reduceAdd,Int.reduceSub,Int.reduceMul,↓reduceIte,Int.reduceBEq,Int.reduceBNe]
def many_s:=popS
theorem many_ok:∀xs v,many_s xs=some v→PureV S 178 xs v:=fun xs v h=>by
 obtain⟨x,h1,rfl,rfl⟩:=popS_inv h
 exact many_p x h1
theorem has_bit(x n:Nat):(((x/2^n&&&1:Nat):Int)=1)=(x.testBit n=true):=by
 have h1:x.testBit n=(x/2^n%2==1):=by rw[Nat.testBit_eq_decide_div_mod_eq];rfl
 rw[h1,Nat.and_one_is_mod,beq_iff_eq]
 apply propext;omega
theorem has_p(x n:Nat)(hx:x<65536)(hn:n<64):PureV S 157 [.int .u64 x,.int .i64 n] (.bool (x.testBit n)):=by
 refine PvE (Tryz.envOK (S:=S) 10 (fun _=>([],[])) fs0 fs0_ok) (.bool) Tryz.kp157 Tryz.func157 rfl ?_
 intro σ
 simp -implicitDefEqProofs (maxSteps:=9^9) (disch:=omega) only[go_sem,reduceCtorEq,Nat.reduceAdd,Nat.reduceSub,Nat.reduceMul,Nat.reduceLT,Nat.reduceLeDiff,Nat.reduceEqDiff,Nat.reduceBEq,Int.reduceToNat,Int.reduceLT,Int.reduceLE,Int.reduceEq,Int.reduceNeg,Int.reduceAdd,Int.reduceSub,Int.reduceMul,↓reduceIte,Int.reduceBEq,Int.reduceBNe]
 have e1:min n 64=n:=by omega
 have e2:=u64_and (x/2^n) 1 (by decide)
 have e3:((x:Nat):Int).fdiv (2^min n 64)=((x/2^n:Nat):Int):=by rw[e1];exact shr_nat x n
 have e4:IntKind.u64.wrap (((BitVec.ofInt 64 (((x:Nat):Int).fdiv (2^min n 64))&&&BitVec.ofInt 64 1).toNat:Nat):Int)=((x/2^n&&&1:Nat):Int):=by rw[e3];exact e2
 have e5:=has_bit x n
 refine⟨fun h=>?_,fun h=>?_⟩
 ·have h2:((x/2^n&&&1:Nat):Int)=1:=e4.symm.trans h
  rw[e5] at h2;exact h2.symm
 ·have h2:¬((x/2^n&&&1:Nat):Int)=1:=fun e=>h (e4.trans e)
  rw[e5] at h2;exact(Bool.eq_false_iff.2 h2).symm
theorem with_p(x n:Nat)(hx:x<65536)(hn:n<16):PureV S 106 [.int .u64 x,.int .i64 n] (.int .u64 ((x|||2^n:Nat):Int)):=by
 refine PvE (Tryz.envOK (S:=S) 9 (fun _=>([],[])) fs0 fs0_ok) (.int) Tryz.kp106 Tryz.func106 rfl ?_
 intro σ
 simp -implicitDefEqProofs (maxSteps:=9^9) (disch:=omega) only[go_sem,reduceCtorEq,Nat.reduceAdd,Nat.reduceSub,Nat.reduceMul,Nat.reduceLT,Nat.reduceLeDiff,Nat.reduceEqDiff,Nat.reduceBEq,Int.reduceToNat,Int.reduceLT,Int.reduceLE,Int.reduceEq,Int.reduceNeg,Int.reduceAdd,Int.reduceSub,Int.reduceMul,↓reduceIte,Int.reduceBEq,Int.reduceBNe]
 have e1:min n 64=n:=by omega
 have hp:(2:Nat)^n≤2^15:=Nat.pow_le_pow_right (by omega) (by omega)
 have e2:IntKind.u64.wrap (1*2^min n 64)=((2^n:Nat):Int):=by
  rw[e1,Int.one_mul]
  have:((2:Int)^n)=((2^n:Nat):Int):=by push_cast;rfl
  rw[this,u64_nat,Nat.mod_eq_of_lt (by omega)]
 have e3:IntKind.u64.wrap (((BitVec.ofInt 64 (x:Int)|||BitVec.ofInt 64 ((2^n:Nat):Int)).toNat:Nat):Int)=((x|||2^n:Nat):Int):=by
  rw[ofInt_nat,ofInt_nat,BitVec.toNat_or,BitVec.toNat_ofNat,BitVec.toNat_ofNat,Nat.mod_eq_of_lt (by omega),Nat.mod_eq_of_lt (by omega),u64_nat,Nat.mod_eq_of_lt]
  have:x|||2^n<2^16:=Nat.or_lt_two_pow (by omega) (by omega)
  omega
 rw[e2];exact e3
def has_s:List AV→Option AV
 | [.int .u64 z,.int .i64 n]=>if(0≤z∧z<65536)∧0≤n∧n<64 then some (.bool (z.toNat.testBit n.toNat)) else none
 | _=>none
theorem has_ok:∀xs v,has_s xs=some v→PureV S 157 xs v:=fun xs v h=>by
 unfold has_s at h
 split at h
 ·rename_i z n
  have h:=someIf h
  rw[← h.2,← Int.toNat_of_nonneg h.1.1.1,← Int.toNat_of_nonneg h.1.2.1]
  simp only[Int.toNat_natCast]
  exact has_p _ _ (by omega) (by omega)
 ·cases h
def with_s:List AV→Option AV
 | [.int .u64 z,.int .i64 n]=>if(0≤z∧z<65536)∧0≤n∧n<16 then some (.int .u64 ((z.toNat|||2^n.toNat:Nat):Int)) else none
 | _=>none
theorem with_ok:∀xs v,with_s xs=some v→PureV S 106 xs v:=fun xs v h=>by
 unfold with_s at h
 split at h
 ·rename_i z n
  have h:=someIf h
  rw[← h.2,← Int.toNat_of_nonneg h.1.1.1,← Int.toNat_of_nonneg h.1.2.1]
  simp only[Int.toNat_natCast]
  exact with_p _ _ (by omega) (by omega)
 ·cases h
def fs403(f:FuncId)(xs:List AV):Option AV:=if f=178 then many_s xs else if f=157 then has_s xs else if f=106 then with_s xs else fs402 f xs
theorem fs403_ok{S:MC Tryz.prog}:∀f xs v,fs403 f xs=some v→PureV S f xs v:=by
 intro f xs v h
 unfold fs403 at h
 split at h
 ·rename_i e;subst e;exact many_ok _ _ h
 split at h
 ·rename_i e;subst e;exact has_ok _ _ h
 split at h
 ·rename_i e;subst e;exact with_ok _ _ h
 exact fs402_ok _ _ _ h
attribute [go_sem] fs403 many_s has_s with_s
end Go.Proofs
namespace Go.Proofs
open Go Go.Mu
def setF(h d m:Int)(s:Sg):Int:=if s.hand=h∧s.day≤d then(if m<s.day then s.day else m) else m
def fromL(l:List Sg)(h d:Int):Int:=l.foldl (setF h d) 0
theorem from_in{h d:Int}:∀(l:List Sg) (m:Int),0≤m→m≤d→0≤l.foldl (setF h d) m∧l.foldl (setF h d) m≤d
 | [],m,h1,h2=>⟨h1,h2⟩
 | s::l,m,h1,h2=>by
  have:0≤setF h d m s∧setF h d m s≤d:=by unfold setF;(repeat' split)<;> omega
  exact from_in l _ this.1 this.2
theorem fromL_in{l:List Sg}{h d:Int}(hd:0≤d):0≤fromL l h d∧fromL l h d≤d:=from_in l 0 (Int.le_refl 0) hd
structure Ros.Head(r:Ros):Prop where
 hands:1≤r.hands∧r.hands≤4
 skill:0≤r.skill∧r.skill≤9
 mn: -5≤r.mn∧r.mn≤r.mx∧r.mx≤5
 setl:r.sets.length≤4
 set:∀s∈r.sets,(0≤s.hand∧s.hand<r.hands)∧0≤s.day∧s.day≤60
 entl:r.ents.length≤5
theorem Ros.head_of{r:Ros}(h:headE r=0):r.Head:=by
 unfold headE at h
 split at h
 ·cases h
 rename_i h1
 split at h
 ·cases h
 split at h
 ·cases h
 split at h
 ·rename_i h2;exact absurd h h2
 rename_i h2 h3 h4
 split at h
 ·cases h
 refine⟨by omega,by omega,by omega,by omega,fun s hs=>?_,by omega⟩
 have:=firstE_all (Classical.byContradiction h4) s hs
 unfold setE at this
 split at this
 ·cases this
 split at this
 ·cases this
 omega
theorem firstNZ_all:∀{l:List Int},firstNZ l=0→∀x∈l,x=0
 | [],_,x,hx=>by simp at hx
 | y::l,h,x,hx=>by
  rw[firstNZ] at h
  split at h
  ·rename_i hy
   rcases List.mem_cons.1 hx with rfl | hx
   ·exact hy
   ·exact firstNZ_all h x hx
  ·rename_i hy;exact absurd h hy
structure Ros.Good(r:Ros):Prop extends r.Head where
 ent:∀x∈r.ents,(0≤x.day∧x.day≤60)∧(-1≤x.hand∧x.hand<r.hands)∧(1≤x.due∧x.due≤100000)∧ck x.ear=0∧x.ear.tones.length≤1∧(askL x.ear (oneE x.ear 0)).2=0
theorem ent_of{x:Tn}{h:Int}(he:(chkE x h).2=0):(0≤x.day∧x.day≤60)∧(-1≤x.hand∧x.hand<h)∧(1≤x.due∧x.due≤100000)∧ck x.ear=0∧x.ear.tones.length≤1∧(askL x.ear (oneE x.ear 0)).2=0:=by
 unfold chkE at he
 split at he
 ·cases he
 split at he
 ·cases he
 split at he
 ·cases he
 split at he
 ·rename_i h4;exact absurd he h4
 split at he
 ·cases he
 rename_i h1 h2 h3 h4 h5
 refine⟨by omega,by omega,by omega,by omega,by omega,?_⟩
 simp only at he
 unfold valuesL at he
 split at he
 ·assumption
 ·rename_i h6;exact absurd he h6
theorem Ros.good_of{r:Ros}(h:headE r=0)(he:entsE r=0):r.Good:=
 ⟨r.head_of h,fun x hx=>ent_of (firstNZ_all he _ (List.mem_map.2 ⟨x,hx,rfl⟩))⟩
theorem chkE_good{x:Tn}{h:Int}(hd:1≤x.due∧x.due≤100000)(hk:ck x.ear=0)(ha:(askL x.ear (oneE x.ear 0)).2=0)(ht:x.ear.tones.length≤1):(∀y∈(chkE x h).1, -2000000≤y∧y≤2000000)∧(chkE x h).1.length≤1000000:=by
 have hv:=valuesL_le hk ha ht
 unfold chkE
 repeat' split
 all_goals first
  | exact⟨fun y hy=>absurd hy List.not_mem_nil,Nat.zero_le _⟩
  | (refine⟨fun y hy=>?_,by simpa using hv.2⟩;obtain⟨z,hz,rfl⟩:=List.mem_map.1 hy;have:=hv.1 z hz;omega)
theorem Ros.Good.devs{r:Ros}(h:r.Good):∀l∈entsL r,(∀y∈l, -2000000≤y∧y≤2000000)∧l.length≤1000000:=by
 intro l hl
 obtain⟨x,hx,rfl⟩:=List.mem_map.1 hl
 obtain⟨_,_,h3,h4,h5,h6⟩:=h.ent x hx
 exact chkE_good h3 h4 h6 h5
theorem entsL_len(r:Ros):(entsL r).length=r.ents.length:=by simp[entsL]
def rtv(x:List Int):AV:= .agg (x.map (.int .i64))
theorem rtv_plain(x:List Int):Plain (rtv x):= .agg (by intro v hv;obtain⟨z,_,rfl⟩:=List.mem_map.1 hv;exact .int)
structure OkX(r:Ros)(x:List Int):Prop where
 len:x.length=4
 rate:∀n∈x, -5≤n∧n≤5
theorem OkX.at{r:Ros}{x:List Int}(h:OkX r x)(i:Int): -5≤tg x i∧tg x i≤5:=by
 unfold tg
 rw[List.getD_eq_getElem?_getD]
 cases he:x[i.toNat]? with
 | none=>simp
 | some n=>simpa using h.rate n (List.mem_of_getElem? he)
def offX(r:Ros)(x:List Int)(h d:Int):Int:=tg x h*(d-fromL r.sets h d)
theorem offX_in{r:Ros}{x:List Int}(hx:OkX r x){h d:Int}(hd:0≤d∧d≤60): -300≤offX r x h d∧offX r x h d≤300:=by
 have h1:=hx.at h
 have h2:=@fromL_in r.sets h d hd.1
 unfold offX
 generalize tg x h=a at *
 have h3:0≤d-fromL r.sets h d∧d-fromL r.sets h d≤60:=by omega
 generalize d-fromL r.sets h d=b at *
 rcases(by omega:a= -5∨a= -4∨a= -3∨a= -2∨a= -1∨a=0∨a=1∨a=2∨a=3∨a=4∨a=5) with rfl | rfl | rfl | rfl | rfl | rfl | rfl | rfl | rfl | rfl | rfl<;> omega
instance : Inhabited Tn:=⟨⟨0,0,0,default⟩⟩
def byB(r:Ros)(ds:List (List Int))(x:List Int)(i:Nat)(h:Int):Bool:=
 if 0≤(r.ents.getD i default).hand∧(r.ents.getD i default).hand≠h then false
 else(ds.getD i []).any fun d=>decide (-r.skill≤d-offX r x h (r.ents.getD i default).day∧d-offX r x h (r.ents.getD i default).day≤r.skill)
def isB(r:Ros)(ds:List (List Int))(x:List Int):Bool:=(List.range r.ents.length).all fun i=>(List.range r.hands.toNat).any fun h=>byB r ds x i h
def allR(r:Ros)(s:Nat):Nat→List Int→Nat→List (List Int)
 | 0,x,_=>[x]
 | m+1,x,a=>if s.testBit a then(List.range (r.mx-r.mn+1).toNat).flatMap fun(k:Nat)=>if r.mn+k=0 then[] else allR r s m (setI x a (r.mn+k)) (a+1) else allR r s m x (a+1)
def htruthsR(r:Ros)(ds:List (List Int))(s:Nat):List (List Int):=(allR r s r.hands.toNat [0,0,0,0] 0).filter (isB r ds)
end Go.Proofs
namespace Go.Proofs
open Go Go.Mu
variable {S:MC Tryz.prog}
theorem take_foldl{α β:Type}{f:β→α→β}{b:β}{l:List α}{i:Nat}(h:i<l.length):(l.take (i+1)).foldl f b=f ((l.take i).foldl f b) l[i]:=by
 rw[List.take_succ_eq_append_getElem h,List.foldl_append];rfl
theorem since_p(r:Ros)(ds:List (List Int))(hr:r.Head)(h d:Int)(hd:0≤d∧d≤60):PureV S 144 [r.wav ds,.int .i64 h,.int .i64 d] (.int .i64 (d-fromL r.sets h d)):=by
 refine PvE (Tryz.envOK (S:=S) 36 (fun _=>([],[])) fs403 fs403_ok) (.int) Tryz.kp144 Tryz.func144 rfl ?_
 intro σ
 obtain⟨hands,skill,mn,mx,sets,ents⟩:=r
 have hl:=hr.setl
 simp only[Ros.wav] at hl⊢
 simp -implicitDefEqProofs (maxSteps:=9^9) (disch:=omega) only[go_sem,simprocAttr]
 refine ARun.forS (Tryz.envOK (S:=S) 36 (fun _=>([],[])) fs403 fs403_ok) sets.length (fun _=>True) (fun i=>[(7,.int .i64 ((sets.take i).foldl (setF h d) 0)),(14,.int .i64 i)]) (fun _ j=>σ++(.cells [.int .i64 hands,.int .i64 skill,.int .i64 mn,.int .i64 mx,.list .no 2 (sets.map Sg.av),.list .no 6 (ents.map Tn.av),.list .no 1 (ds.map ints1)]::j)) [] (by kernel_rfl) (by simp) (by simp[upd,ins,subF,lookA]) trivial ?_ ?_
 ·intro i j hi _ ih
  rw[take_foldl hi] at ih
  obtain⟨f1,f2⟩:=@from_in h d (sets.take i) 0 (Int.le_refl 0) hd.1
  generalize (sets.take i).foldl (setF h d) 0=m at *
  simp -implicitDefEqProofs (maxSteps:=9^9) (disch:=omega) only[go_sem,simprocAttr,Sg.av]
  refine⟨fun p1=>⟨fun p2=>?_,fun p2=>?_⟩,fun p1=>?_⟩
  ·exact(ih trivial (j++[_])).castS rfl (by simp[upd,ins,subF,lookA,setF,p1,p2])
  ·exact(ih trivial (j++[_])).castS rfl (by simp[upd,ins,subF,lookA,setF,p1,p2])
  ·exact(ih trivial (j++[_])).castS rfl (by simp[upd,ins,subF,lookA,setF,p1])
 ·intro j _
  rw[List.take_length]
  obtain⟨f1,f2⟩:=@from_in h d sets 0 (Int.le_refl 0) hd.1
  have hw:IntKind.i64.wrap (d-sets.foldl (setF h d) 0)=d-sets.foldl (setF h d) 0:=wrap64 (by omega) (by omega)
  simp -implicitDefEqProofs (maxSteps:=9^9) (disch:=omega) only[go_sem,simprocAttr,hw]
  rfl
theorem ClV.ap0{P:Program}{S:MC P}{g:FuncId}{p q:List AV}{σ:List AObj}{x:AV}{v:AV}(h:ClV S g p q σ [x] v){Q:AV→List AObj→Prop}(hq:Q v σ):ACalls S g (p++x::q) σ Q:=by
 have:=h σ (Nat.le_refl _) (fun _ _=>rfl) Q hq
 simpa using this
theorem indexI_c{g:FuncId}{p q:List AV}{σ:List AObj}(f:Int→Bool)(l:List Int)(tk:Tok)(hl:l.length≤4294967296)(hn:∀d∈l,ClV S g p q σ [.int .i64 d] (.bool (f d)))(Q:AV→List AObj→Prop)(h:∀n:Int,decide (0≤n)=l.any f→Q (.int .i64 n) σ) :
  ACalls S 201 [.list tk 1 (l.map (.int .i64)),.fn (.func g) p q] σ Q:=by
 refine AcE (Tryz.envOK (S:=S) 19 (fun _=>([],[])) fs0 fs0_ok) Tryz.kp201 Tryz.func201 rfl ?_
 simp -implicitDefEqProofs (maxSteps:=9^9) (disch:=omega) only[go_sem,simprocAttr]
 refine ARun.forS (Tryz.envOK (S:=S) 19 (fun _=>([],[])) fs0 fs0_ok) l.length (fun i=>(l.take i).any f=false) (fun i=>[(8,.int .i64 i)]) (fun _ _=>σ) [] (by kernel_rfl) rfl (by simp[upd,ins,subF,lookA]) (by simp) ?_ ?_
 ·intro i j hi hp ih
  have hmi:l[i]∈l:=List.getElem_mem hi
  simp -implicitDefEqProofs (maxSteps:=9^9) (disch:=omega) only[go_sem,simprocAttr]
  refine(hn _ hmi).ap0 ?_
  cases hb:f l[i]
  ·simp -implicitDefEqProofs (maxSteps:=9^9) (disch:=omega) only[go_sem,simprocAttr]
   refine(ih ?_ []).castS rfl (by simp[upd,ins,subF,lookA])
   rw[List.take_succ_eq_append_getElem hi,List.any_append,hp];simp[hb]
  ·simp -implicitDefEqProofs (maxSteps:=9^9) (disch:=omega) only[go_sem,simprocAttr]
   refine h _ ?_
   have:l.any f=true:=List.any_eq_true.2 ⟨_,hmi,hb⟩
   rw[this];simp
 ·intro j hp
  rw[List.take_length] at hp
  simp -implicitDefEqProofs (maxSteps:=9^9) (disch:=omega) only[go_sem,simprocAttr]
  refine h _ ?_
  rw[hp];simp
theorem containsI_c{g:FuncId}{p q:List AV}{σ:List AObj}(f:Int→Bool)(l:List Int)(tk:Tok)(hl:l.length≤4294967296)(hn:∀d∈l,ClV S g p q σ [.int .i64 d] (.bool (f d)))(Q:AV→List AObj→Prop)(h:Q (.bool (l.any f)) σ) :
  ACalls S 155 [.list tk 1 (l.map (.int .i64)),.fn (.func g) p q] σ Q:=by
 refine AcE (Tryz.envOK (S:=S) 9 (fun _=>([],[])) fs0 fs0_ok) Tryz.kp155 Tryz.func155 rfl ?_
 simp -implicitDefEqProofs (maxSteps:=9^9) (disch:=omega) only[go_sem,simprocAttr]
 refine indexI_c f l tk hl hn _ fun n hn=>?_
 rw[← hn] at h
 by_cases h0:0≤n
 ·have e:decide (0≤n)=true:=by simpa using h0
  rw[e] at h
  simp -implicitDefEqProofs (maxSteps:=9^9) (disch:=omega) only[go_sem,simprocAttr]
  exact h
 ·have e:decide (0≤n)=false:=by simpa using h0
  rw[e] at h
  simp -implicitDefEqProofs (maxSteps:=9^9) (disch:=omega) only[go_sem,simprocAttr]
  exact h
def Ros.wcells(r:Ros)(l:List (List Int)):List AV:=[.int .i64 r.hands,.int .i64 r.skill,.int .i64 r.mn,.int .i64 r.mx,.list .no 2 (r.sets.map Sg.av),.list .no 6 (r.ents.map Tn.av),.list .no 1 (l.map ints1)]
theorem by1_v{σ:List AObj}{re rr:Nat}{r:Ros}{ds:List (List Int)}{e d:Int}(hs:0≤r.skill∧r.skill≤9)(he: -300≤e∧e≤300)(hd: -2000000≤d∧d≤2000000)(h1:hget σ re=some (.cells [.int .i64 e]))(h2:hget σ rr=some (.cells (r.wcells ds))) :
  ClV S 156 [] [.ptr re 0,.ptr rr 0] σ [.int .i64 d] (.bool (decide (-r.skill≤d-e∧d-e≤r.skill))):=by
 intro σ' hl' hs' Q hq
 have h1':=(hs' _ (hget_lt h1)).trans h1
 have h2':=(hs' _ (hget_lt h2)).trans h2
 simp only[List.nil_append,List.cons_append]
 refine ACalls.clean_ev (E:=Tryz.E (S:=S) 16 (fun _=>([],[])) fs403) (Tryz.envOK (S:=S) 16 (fun _=>([],[])) fs403 fs403_ok) (.bool _) (hq) Tryz.kp156 Tryz.func156 rfl (by kernel_rfl) (by simp[Tryz.E]) (Callable.of Tryz.func156 (by kernel_rfl) (by kernel_rfl)) (by kernel_rfl) ?_
 have hw:IntKind.i64.wrap (d-e)=d-e:=wrap64 (by omega) (by omega)
 have hw2:IntKind.i64.wrap (-r.skill)= -r.skill:=wrap64 (by omega) (by omega)
 simp -implicitDefEqProofs (maxSteps:=9^9) (disch:=omega) only[go_sem,simprocAttr,h1',h2',Ros.wcells,hw,hw2]
 exact⟨fun a b=>(decide_eq_true (by omega)).symm,fun h=>(decide_eq_false (by omega)).symm⟩
theorem by_p(r:Ros)(hr:r.Head)(ds:List (List Int))(hds:∀l∈ds,(∀y∈l, -2000000≤y∧y≤2000000)∧l.length≤1000000)(hdl:ds.length=r.ents.length)(hde:∀t∈r.ents,0≤t.day∧t.day≤60)(x:List Int)(hx:OkX r x)(i:Nat)(hi:i<r.ents.length)(h:Int)(hh:0≤h∧h<4) :
  PureV S 111 [r.wav ds,rtv x,.int .i64 i,.int .i64 h] (.bool (byB r ds x i h)):=by
 refine PvE (Tryz.envOK (S:=S) 42 Tryz.ord111 fs403 fs403_ok) (.bool) Tryz.kp111 Tryz.func111 rfl ?_
 intro σ
 have hid:i<ds.length:=by omega
 have hgd:r.ents.getD i default=r.ents[i]:=by simp[List.getD,List.getElem?_eq_getElem hi]
 have hgs:ds.getD i []=ds[i]:=by simp[List.getD,List.getElem?_eq_getElem hid]
 have hday:=hde _ (List.getElem_mem hi)
 have hdi:=hds _ (List.getElem_mem hid)
 have hoff:=@offX_in r x hx h r.ents[i].day hday
 have hel:=hr.entl
 have hxl:=hx.len
 have hby:byB r ds x i h=if 0≤r.ents[i].hand∧r.ents[i].hand≠h then false else ds[i].any fun d=>decide (-r.skill≤d-offX r x h r.ents[i].day∧d-offX r x h r.ents[i].day≤r.skill):=by
  unfold byB;rw[hgd,hgs]
 rw[hby]
 clear hgd hgs hby hds hde
 have hav:r.wav ds= .agg (r.wcells ds):=rfl
 simp only[hav,rtv]
 simp -implicitDefEqProofs (maxSteps:=9^9) (disch:=omega) only[go_sem,simprocAttr,Ros.wcells,Tn.av,Tn.cells]
 have hw:IntKind.i64.wrap (tg x h*(r.ents[i].day-fromL r.sets h r.ents[i].day))=offX r x h r.ents[i].day:=wrap64 (by unfold offX at hoff;omega) (by unfold offX at hoff;omega)
 refine⟨fun q1=>⟨fun q2=>?_,fun q2=>?_⟩,fun q1=>?_⟩
 ·rw[if_pos ⟨q1,q2⟩]
 ·rw[if_neg (fun c=>c.2 q2)]
  refine since_p r ds hr h _ hday _ _ ?_
  simp -implicitDefEqProofs (maxSteps:=9^9) (disch:=omega) only[go_sem,simprocAttr,Ros.wcells,Tn.av,Tn.cells,hw,ints1]
  refine containsI_c (fun d=>decide (-r.skill≤d-offX r x h r.ents[i].day∧d-offX r x h r.ents[i].day≤r.skill)) ds[i] .no (by omega) (fun d hd=>by1_v (r:=r) (ds:=ds) hr.skill hoff (hdi.1 d hd) hget_at (by simp[hget_at0,Ros.wcells])) _ ?_
  simp -implicitDefEqProofs (maxSteps:=9^9) (disch:=omega) only[go_sem,simprocAttr,Ros.wcells,Tn.av,Tn.cells,hw,ints1]
 ·rw[if_neg (fun c=>q1 c.1)]
  refine since_p r ds hr h _ hday _ _ ?_
  simp -implicitDefEqProofs (maxSteps:=9^9) (disch:=omega) only[go_sem,simprocAttr,Ros.wcells,Tn.av,Tn.cells,hw,ints1]
  refine containsI_c (fun d=>decide (-r.skill≤d-offX r x h r.ents[i].day∧d-offX r x h r.ents[i].day≤r.skill)) ds[i] .no (by omega) (fun d hd=>by1_v (r:=r) (ds:=ds) hr.skill hoff (hdi.1 d hd) hget_at (by simp[hget_at0,Ros.wcells])) _ ?_
  simp -implicitDefEqProofs (maxSteps:=9^9) (disch:=omega) only[go_sem,simprocAttr,Ros.wcells,Tn.av,Tn.cells,hw,ints1]
end Go.Proofs
