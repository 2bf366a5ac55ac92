/- Texts of a proof: lemmas. -/
import Derived.Test.YtgbdndlmdklefaaGreatK39
import Derived.Test.YtgbdndlmdklefaaGreatK38
import Derived.Test.YtgbdndlmdklefaaGreatK35
set_option linter.unusedSimpArgs false
set_option linter.unusedVariables false
set_option maxRecDepth 100000
set_option maxHeartbeats 40000000
namespace Go.Proofs
open Go Go.Mu Go.Ins
variable {S:MC Tryz.prog}
/-! The reference's count, Convicts, Rates. -/
def rhasl_s:=spec2 tIs tI fun l n=>if l.length≤1000000 then some (.bool (l.contains n)) else none
theorem rhasl_ok:∀xs v,rhasl_s xs=some v→PureV S 153 xs v:=
 spec2_ok fun l n v e=>by have e:=someIf e;rw[← e.2];exact rhas_p l e.1 n
def fs422(f:FuncId)(xs:List AV):Option AV:=if f=153 then rhasl_s xs else fs421 f xs
theorem fs422_ok{S:MC Tryz.prog}:∀f xs v,fs422 f xs=some v→PureV S f xs v:=by
 intro f xs v h
 unfold fs422 at h
 split at h
 ·rename_i e;subst e;exact rhasl_ok _ _ h
 exact fs421_ok _ _ _ h
attribute [go_sem] fs422 rhasl_s
theorem rcount_p(l:List (List Int))(h:Int)(hl:l.length≤1000000)(hel:∀x∈l,x.length≤1000000):PureV S 109 [htss l,.int .i64 h] (.int .i64 (cntL l h)):=by
 refine PvE (Tryz.envOK (S:=S) 22 (fun _=>([],[])) fs422 fs422_ok) (.int) Tryz.kp109 Tryz.func109 rfl ?_
 intro σ
 simp only[htss]
 simp -implicitDefEqProofs (maxSteps:=9^9) (disch:=omega) only[go_sem,simprocAttr]
 refine ARun.forS (Tryz.envOK (S:=S) 22 (fun _=>([],[])) fs422 fs422_ok) l.length (fun _=>True) (fun i=>[(5,.int .i64 (cntL (l.take i) h)),(6,.int .i64 i)]) (fun _ _=>σ) [] (by kernel_rfl) rfl (by simp[upd,ins,subF,lookA,cntL]) trivial ?_ ?_
 ·intro i j hi _ ih
  have hidx:idx (l.map ints1) (i:Int)=some (ints1 l[i]):=idx_nat hi
  have hel1:=hel _ (List.getElem_mem hi)
  have hwi:IntKind.i64.wrap ((i:Int)+1)=((i+1:Nat):Int):=by rw[wrap64 (by omega) (by omega)];rfl
  have hci:cntL (l.take i) h≤i:=Nat.le_trans (List.length_filter_le _ _) (by rw[List.length_take];omega)
  rw[cntL_succ hi] at ih
  generalize l[i]=x at *
  generalize cntL (l.take i) h=c at *
  have hwc:IntKind.i64.wrap ((c:Int)+1)=((c+1:Nat):Int):=by rw[wrap64 (by omega) (by omega)];rfl
  simp only[ints1] at hidx
  cases hT:x.contains h
  ·rw[hT] at ih
   simp -implicitDefEqProofs (maxSteps:=9^9) (disch:=omega) only[go_sem,simprocAttr,hidx,hT,hwi]
   exact(ih trivial []).castS rfl (by simp[upd,ins,subF,lookA])
  ·rw[hT] at ih
   simp -implicitDefEqProofs (maxSteps:=9^9) (disch:=omega) only[go_sem,simprocAttr,hidx,hT,hwi,hwc]
   exact(ih trivial []).castS rfl (by simp[upd,ins,subF,lookA])
 ·intro j _
  rw[List.take_length]
  simp -implicitDefEqProofs (maxSteps:=9^9) (disch:=omega) only[go_sem,simprocAttr]
theorem rConvicts_p(r:Ros)(hf:r.Fit):PureV S 54 [r.av] (.tup [ints1 (convL r),.int .i64 (knownE r [])]):=by
 have hkn:=rknown_p (S:=S) r hf
 rw[rkn1] at hkn
 generalize (rkn r).2=B at *
 refine PvE (Tryz.envOK (S:=S) 43 (fun _=>([],[])) fs422 fs422_ok) (.tup (by simp only[List.mem_cons,List.not_mem_nil,or_false,forall_eq_or_imp,forall_eq];exact⟨(ints1_good _).2,.int⟩)) Tryz.kp54 Tryz.func54 rfl ?_
 intro σ
 obtain⟨hF6,hF4⟩:=fewL_few r
 by_cases hE:knownE r []=0
 ·have hg:=known_good hE
  have hh:=hg.hands
  have hH:(r.hands.toNat:Int)=r.hands:=by omega
  rw[show convL r=convF (fewL r) r.hands.toNat from if_pos hE,hE]
  rw[hE] at hkn
  generalize fewL r=F at hF6 hF4 hkn⊢
  simp only[Ros.av,htss] at hkn⊢
  simp -implicitDefEqProofs (maxSteps:=9^9) (disch:=omega) only[go_sem,simprocAttr]
  refine hkn _ _ ?_
  simp -implicitDefEqProofs (maxSteps:=9^9) (disch:=omega) only[go_sem,simprocAttr]
  refine ARun.ghost 7 1 (sz0:=0) rfl (by simp[lookA]) ?_
  simp only[ins,↓reduceIte,Nat.reduceEqDiff,List.append_assoc,List.cons_append,List.nil_append,List.length_append,List.length_cons,List.length_nil,Nat.zero_add]
  refine ARun.forS (Tryz.envOK (S:=S) 43 (fun _=>([],[])) fs422 fs422_ok) r.hands.toNat (fun _=>True) (fun i=>[(7,.list (.own (σ.length+1)) 1 ((convF F i).map (.int .i64))),(8,.int .i64 i)]) (fun i _=>σ++[.cells [.int .i64 r.hands,.int .i64 r.skill,.int .i64 r.mn,.int .i64 r.mx,.list .no 2 (r.sets.map Sg.av),.list .no 6 (r.ents.map Tn.av)],.tail (convF F i).length 1]) [] (by kernel_rfl) (by simp[convF]) (by simp[upd,ins,subF,lookA,convF]) trivial ?_ ?_
  ·intro i j hi _ ih
   have hcl:(convF F i).length=i:=by simp[convF]
   rw[convF_succ] at ih
   have hwi:IntKind.i64.wrap ((i:Int)+1)=((i+1:Nat):Int):=by rw[wrap64 (by omega) (by omega)];rfl
   have hlt:((i:Int)<r.hands)=True:=eq_true (by omega)
   generalize convF F i=C at hcl ih⊢
   have hcv:convV F i=if cntL F i=F.length then 1 else if cntL F i=0 then 2 else 3:=rfl
   have hFe:∀x∈F,x.length≤1000000:=fun x hx=>by have:=hF4 x hx;omega
   have hml:(F.map ints1).length=F.length:=by simp
   simp -implicitDefEqProofs (maxSteps:=9^9) (disch:=omega) only[go_sem,simprocAttr,hlt]
   refine rcount_p F i (by omega) hFe _ _ ?_
   generalize cntL F i=c at hcv⊢
   by_cases c1:c=F.length
   ·rw[if_pos c1] at hcv
    rw[hcv] at ih
    have c1':((c:Int)=F.length)=True:=eq_true (by omega)
    simp -implicitDefEqProofs (maxSteps:=9^9) (disch:=omega) only[go_sem,simprocAttr,c1',hcl,hwi,hml]
    exact(ih trivial []).castS (by simp[hcl]) (by simp[upd,ins,subF,lookA])
   ·rw[if_neg c1] at hcv
    have c1':((c:Int)=F.length)=False:=eq_false (by omega)
    by_cases c2:c=0
    ·rw[if_pos c2] at hcv
     rw[hcv] at ih
     have c2':((c:Int)=0)=True:=eq_true (by omega)
     simp -implicitDefEqProofs (maxSteps:=9^9) (disch:=omega) only[go_sem,simprocAttr,c1',c2',hcl,hwi,hml]
     exact(ih trivial []).castS (by simp[hcl]) (by simp[upd,ins,subF,lookA])
    ·rw[if_neg c2] at hcv
     rw[hcv] at ih
     have c2':((c:Int)=0)=False:=eq_false (by omega)
     simp -implicitDefEqProofs (maxSteps:=9^9) (disch:=omega) only[go_sem,simprocAttr,c1',c2',hcl,hwi,hml]
     exact(ih trivial []).castS (by simp[hcl]) (by simp[upd,ins,subF,lookA])
  ·intro j _
   have hlt:(((r.hands.toNat:Nat):Int)<r.hands)=False:=eq_false (by omega)
   simp -implicitDefEqProofs (maxSteps:=9^9) (disch:=omega) only[go_sem,simprocAttr,ints1,hlt]
 ·have hE':(knownE r []=0)=False:=eq_false hE
  rw[show convL r=[] from if_neg hE]
  simp only[Ros.av,htss] at hkn⊢
  simp -implicitDefEqProofs (maxSteps:=9^9) (disch:=omega) only[go_sem,simprocAttr]
  refine hkn _ _ ?_
  simp -implicitDefEqProofs (maxSteps:=9^9) (disch:=omega) only[go_sem,simprocAttr,hE',ints1,List.map_nil]
def rhandE(r:Ros)(h:Int):Int:=if rosE r≠0 then rosE r else isHandE r.hands h
theorem rcheckHand_p(r:Ros)(hf:r.Fit)(h:Int):PureV S 95 [r.av,.int .i64 h] (.int .i64 (rhandE r h)):=by
 have hc:=rCheck11_p (S:=S) r hf.sets hf.ents hf.ear
 rw[rosR_eq] at hc
 refine PvE (Tryz.envOK (S:=S) 17 (fun _=>([],[])) fs422 fs422_ok) (.int) Tryz.kp95 Tryz.func95 rfl ?_
 intro σ
 by_cases hro:rosE r=0
 ·have hh:=(ros_good hro).1.hands
  have hw:IntKind.i64.wrap (r.hands-1)=r.hands-1:=wrap64 (by omega) (by omega)
  rw[show rhandE r h=isHandE r.hands h from if_neg (fun c=>c hro)]
  rw[hro] at hc
  unfold isHandE
  rw[hw]
  simp only[Ros.av] at hc⊢
  simp -implicitDefEqProofs (maxSteps:=9^9) (disch:=omega) only[go_sem,simprocAttr]
  refine hc _ _ ?_
  by_cases c:0≤h∧h≤r.hands-1
  ·rw[if_pos c]
   have c':decide (0≤h∧h≤r.hands-1)=true:=decide_eq_true c
   simp -implicitDefEqProofs (maxSteps:=9^9) (disch:=omega) only[go_sem,simprocAttr,hw,c']
  ·rw[if_neg c]
   have c':decide (0≤h∧h≤r.hands-1)=false:=decide_eq_false c
   simp -implicitDefEqProofs (maxSteps:=9^9) (disch:=omega) only[go_sem,simprocAttr,hw,c']
 ·rw[show rhandE r h=rosE r from if_pos hro]
  generalize rosE r=q at *
  have hro':(q=0)=False:=eq_false hro
  simp only[Ros.av] at hc⊢
  simp -implicitDefEqProofs (maxSteps:=9^9) (disch:=omega) only[go_sem,simprocAttr]
  refine hc _ _ ?_
  simp -implicitDefEqProofs (maxSteps:=9^9) (disch:=omega) only[go_sem,simprocAttr,hro']
/-! The reference's errors and Errors. -/
def rErrs(r:Ros)(X:List (List Int))(h d:Int):Int×Int:=if X=[] then(0,0) else errsL r X h d
theorem errF_spec{f:List Int→Int}:∀(L:List (List Int)) (m:Int×Int),((L.foldl (errF f) m).1≤m.1∧(∀x∈L,(L.foldl (errF f) m).1≤f x)∧((L.foldl (errF f) m).1=m.1∨∃x∈L,f x=(L.foldl (errF f) m).1))∧(m.2≤(L.foldl (errF f) m).2∧(∀x∈L,f x≤(L.foldl (errF f) m).2)∧((L.foldl (errF f) m).2=m.2∨∃x∈L,f x=(L.foldl (errF f) m).2))
 | [],m=>⟨⟨by simp,by simp,.inl rfl⟩,by simp,by simp,.inl rfl⟩
 | y::L,m=>by
  obtain⟨⟨a1,a2,a3⟩,b1,b2,b3⟩:=errF_spec (f:=f) L (errF f m y)
  have e1:(errF f m y).1≤m.1∧(errF f m y).1≤f y∧((errF f m y).1=m.1∨(errF f m y).1=f y):=by
   unfold errF;simp only;split<;> omega
  have e2:m.2≤(errF f m y).2∧f y≤(errF f m y).2∧((errF f m y).2=m.2∨(errF f m y).2=f y):=by
   unfold errF;simp only;split<;> omega
  rw[List.foldl_cons]
  generalize L.foldl (errF f) (errF f m y)=R at *
  generalize errF f m y=q at *
  refine⟨⟨by omega,fun x hx=>?_,?_⟩,by omega,fun x hx=>?_,?_⟩
  ·rcases List.mem_cons.1 hx with rfl | hx
   ·omega
   ·exact a2 x hx
  ·rcases a3 with c | ⟨x,hx,c⟩
   ·rcases e1.2.2 with g | g
    ·left;omega
    ·right;exact⟨y,by simp,by omega⟩
   ·right;exact⟨x,by simp[hx],c⟩
  ·rcases List.mem_cons.1 hx with rfl | hx
   ·omega
   ·exact b2 x hx
  ·rcases b3 with c | ⟨x,hx,c⟩
   ·rcases e2.2.2 with g | g
    ·left;omega
    ·right;exact⟨y,by simp,by omega⟩
   ·right;exact⟨x,by simp[hx],c⟩
theorem errF_same{f:List Int→Int}{L M:List (List Int)}(hL:∀x∈L, -300≤f x∧f x≤300)(hne:L≠[])(h1:∀x∈L,∃y∈M,f y=f x)(h2:∀y∈M,∃x∈L,f x=f y):L.foldl (errF f) (100000, -100000)=M.foldl (errF f) (100000, -100000):=by
 obtain⟨⟨a1,a2,a3⟩,b1,b2,b3⟩:=errF_spec (f:=f) L (100000, -100000)
 obtain⟨⟨c1,c2,c3⟩,d1,d2,d3⟩:=errF_spec (f:=f) M (100000, -100000)
 obtain⟨x0,hx0⟩:=List.exists_mem_of_ne_nil _ hne
 obtain⟨y0,hy0,hxy⟩:=h1 x0 hx0
 have g0:=hL x0 hx0
 have g1:=a2 x0 hx0
 have g2:=b2 x0 hx0
 have g3:=c2 y0 hy0
 have g4:=d2 y0 hy0
 generalize L.foldl (errF f) (100000, -100000)=A at *
 generalize M.foldl (errF f) (100000, -100000)=B at *
 simp only at a1 a3 b1 b3 c1 c3 d1 d3
 have e1:A.1=B.1:=by
  have k1:A.1≤B.1:=by
   rcases c3 with c | ⟨y,hy,c⟩
   ·omega
   ·obtain⟨x,hx,e⟩:=h2 y hy
    have:=a2 x hx;omega
  have k2:B.1≤A.1:=by
   rcases a3 with c | ⟨x,hx,c⟩
   ·omega
   ·obtain⟨y,hy,e⟩:=h1 x hx
    have:=c2 y hy;omega
  omega
 have e2:A.2=B.2:=by
  have k1:B.2≤A.2:=by
   rcases d3 with c | ⟨y,hy,c⟩
   ·omega
   ·obtain⟨x,hx,e⟩:=h2 y hy
    have:=b2 x hx;omega
  have k2:A.2≤B.2:=by
   rcases b3 with c | ⟨x,hx,c⟩
   ·omega
   ·obtain⟨y,hy,e⟩:=h1 x hx
    have:=d2 y hy;omega
  omega
 exact Prod.ext e1 e2
theorem offX_pad(r:Ros)(x:List Int)(h d:Int):offX r (padR x) h d=offX r x h d:=by unfold offX;rw[padR_tg]
theorem errs_same{r:Ros}(hk:knownE r []=0){h d:Int}(hd:0≤d∧d≤60):rErrs r (rkn r).2 h d=errsL r (explR r (entsL r)) h d:=by
 have hg:=known_good hk
 have hro:rosE r=0:=Classical.byContradiction fun c=>by rw[known_ros c] at hk;exact c hk
 have e:rkn r=rfew r:=if_pos hk
 rw[e]
 rcases rfew_spec hg hro with⟨_,_,_,hm⟩ | ⟨h11,_⟩
 ·have hne:=explR_ne hk
  obtain⟨u,hu⟩:=List.exists_mem_of_ne_nil _ hne
  obtain⟨x,hx,_⟩:=(hm u).1 hu
  have hn:(rfew r).2≠[]:=List.ne_nil_of_mem hx
  unfold rErrs
  rw[if_neg hn]
  refine(errF_same (f:=fun x=>offX r x h d) (fun x hx=>offX_in (explR_okL hg x hx) hd) hne (fun u hu=>?_) (fun x hx=>?_)).symm
  ·obtain⟨x,hx,e⟩:=(hm u).1 hu
   exact⟨x,hx,by rw[← e];exact(offX_pad r x h d).symm⟩
  ·exact⟨padR x,(hm _).2 ⟨x,hx,rfl⟩,offX_pad r x h d⟩
 ·rw[hk] at h11;cases h11
theorem known_hand{r:Ros}{h:Int}{e:Int}:knownE r [isHandE r.hands h,e]=if rhandE r h≠0 then rhandE r h else if e≠0 then e else knownE r []:=by
 unfold knownE rhandE
 simp only[firstNZ]
 by_cases h1:rosE r=0
 ·by_cases h2:isHandE r.hands h=0
  ·by_cases h3:e=0
   ·simp[h1,h2,h3]
   ·simp[h1,h2,h3]
  ·simp[h1,h2]
 ·simp[h1]
def XOK(X:List (List Int))(h:Int):Prop:=∀x∈X,h<x.length∧∀n∈x, -5≤n∧n≤5
theorem rerrors_p(r:Ros)(hsl:r.sets.length≤4)(X:List (List Int))(hXl:X.length≤10000000)(h d:Int)(hh:0≤h)(hX:XOK X h)(hd:0≤d∧d≤60):PureV S 98 [r.av,htss X,.int .i64 h,.int .i64 d] (.agg [.int .i64 (rErrs r X h d).1,.int .i64 (rErrs r X h d).2]):=by
 refine PvE (Tryz.envOK (S:=S) 44 Tryz.ord98 fs422 fs422_ok) (pair_plain _ _) Tryz.kp98 Tryz.func98 rfl ?_
 intro σ
 have hoff:=fun n hn=>roff_p (S:=S) r hsl h d n hd hn
 simp only[Ros.av,htss] at hoff⊢
 simp -implicitDefEqProofs (maxSteps:=9^9) (disch:=omega) only[go_sem,simprocAttr]
 refine ARun.forS (Tryz.envOK (S:=S) 44 Tryz.ord98 fs422 fs422_ok) X.length (fun _=>True) (fun i=>[(10,.int .i64 i)]) (fun i _=>σ++[.cells [.int .i64 r.hands,.int .i64 r.skill,.int .i64 r.mn,.int .i64 r.mx,.list .no 2 (r.sets.map Sg.av),.list .no 6 (r.ents.map Tn.av)],.cells [.int .i64 0,.int .i64 0],.cells [.int .i64 (rErrs r (X.take i) h d).1,.int .i64 (rErrs r (X.take i) h d).2]]) [] (by kernel_rfl) (by simp[rErrs]) (by simp[upd,ins,subF,lookA]) trivial ?_ ?_
 ·intro i j hi _ ih
  have hidx:idx (X.map ints1) (i:Int)=some (ints1 X[i]):=idx_nat hi
  obtain⟨hx1,hx2⟩:=hX _ (List.getElem_mem hi)
  have hwi:IntKind.i64.wrap ((i:Int)+1)=((i+1:Nat):Int):=by rw[wrap64 (by omega) (by omega)];rfl
  have hst:rErrs r (X.take (i+1)) h d=errF (fun x=>offX r x h d) (if i=0 then(offX r X[i] h d,offX r X[i] h d) else rErrs r (X.take i) h d) X[i]:=by
   have e1:X.take (i+1)=X.take i++[X[i]]:=List.take_succ_eq_append_getElem hi
   have hne:X.take (i+1)≠[]:=by rw[e1];exact List.append_ne_nil_of_right_ne_nil _ (List.cons_ne_nil _ _)
   have hb: -300≤offX r X[i] h d∧offX r X[i] h d≤300:=by
    have hp:OkX r ([tg X[i] h,0,0,0]):=⟨rfl,fun n hn=>by
     have:tg X[i] h∈X[i]:=by
      have hlt:h.toNat<X[i].length:=by omega
      have:tg X[i] h=X[i][h.toNat]:=by simp[tg,List.getD_eq_getElem?_getD,List.getElem?_eq_getElem hlt]
      rw[this];exact List.getElem_mem _
     have:=hx2 _ this
     simp at hn;omega⟩
    have:=@offX_in r _ hp 0 d hd
    have e:offX r X[i] h d=tg X[i] h*(d-fromL r.sets h d):=rfl
    have hf:=@fromL_in r.sets h d hd.1
    have ht:=hp.at 0
    have e0:tg [tg X[i] h,0,0,0] 0=tg X[i] h:=rfl
    rw[e0] at ht
    rw[e]
    generalize tg X[i] h=a at *
    have h3:0≤d-fromL r.sets h d∧d-fromL r.sets h d≤60:=by omega
    generalize d-fromL r.sets h d=b at *
    rcases(by omega:a= -5∨a= -4∨a= -3∨a= -2∨a= -1∨a=0∨a=1∨a=2∨a=3∨a=4∨a=5) with rfl | rfl | rfl | rfl | rfl | rfl | rfl | rfl | rfl | rfl | rfl<;> omega
   unfold rErrs
   rw[if_neg hne]
   unfold errsL
   rw[e1,List.foldl_append]
   by_cases h0:i=0
   ·subst h0
    rw[if_pos rfl]
    simp only[List.take_zero,List.foldl_nil,List.foldl_cons]
    unfold errF
    simp only
    rw[if_pos (by omega),if_pos (by omega),if_neg (by omega)]
   ·have hl:(X.take i).length=i:=by rw[List.length_take];omega
    have hz:X.take i≠[]:=fun c=>by rw[c] at hl;simp at hl;omega
    rw[if_neg h0,if_neg hz]
    rfl
  rw[hst] at ih
  have hix:idx (X[i].map (AV.int .i64)) h=some (.int .i64 (tg X[i] h)):=idx_tg ⟨hh,hx1⟩
  have hxh: -5≤tg X[i] h∧tg X[i] h≤5:=by
   have hlt:h.toNat<X[i].length:=by omega
   have:tg X[i] h=X[i][h.toNat]:=by simp[tg,List.getD_eq_getElem?_getD,List.getElem?_eq_getElem hlt]
   rw[this];exact hx2 _ (List.getElem_mem _)
  have ho:=hoff _ hxh
  have hoe:tg X[i] h*(d-fromL r.sets h d)=offX r X[i] h d:=rfl
  rw[hoe] at ho
  have hsm:errF (fun x=>offX r x h d)=fun m x=>(if offX r x h d<m.1 then offX r x h d else m.1,if m.2<offX r x h d then offX r x h d else m.2):=rfl
  rw[hsm] at ih
  dsimp only at ih
  clear hst hoe hsm hoff
  have hE0:i=0→rErrs r (X.take i) h d=(0,0):=fun e=>by subst e;rfl
  generalize rErrs r (X.take i) h d=E at *
  generalize offX r X[i] h d=o at *
  generalize X[i]=x at *
  generalize tg x h=n at *
  simp only[ints1] at hidx
  by_cases h0:i=0
  ·have h0':((i:Int)=0)=True:=eq_true (by omega)
   rw[if_pos h0] at ih
   simp only[Int.lt_irrefl,↓reduceIte] at ih
   simp -implicitDefEqProofs (maxSteps:=9^9) (disch:=omega) only[go_sem,simprocAttr,hidx,hix]
   refine ho _ _ ?_
   simp -implicitDefEqProofs (maxSteps:=9^9) (disch:=omega) only[go_sem,simprocAttr,h0',hwi]
   exact(ih trivial []).castS (by simp) (by simp[upd,ins,subF,lookA])
  ·have h0':((i:Int)=0)=False:=eq_false (by omega)
   rw[if_neg h0] at ih
   simp -implicitDefEqProofs (maxSteps:=9^9) (disch:=omega) only[go_sem,simprocAttr,hidx,hix]
   refine ho _ _ ?_
   simp -implicitDefEqProofs (maxSteps:=9^9) (disch:=omega) only[go_sem,simprocAttr,h0',hwi]
   exact(ih trivial []).castS (by simp) (by simp[upd,ins,subF,lookA])
 ·intro j _
  rw[List.take_length]
  simp -implicitDefEqProofs (maxSteps:=9^9) (disch:=omega) only[go_sem,simprocAttr]
theorem rfew_xok{r:Ros}(hr:r.Head){h:Int}(hh:h<r.hands):XOK (rfew r).2 h:=fun x hx=>by
 obtain⟨h1,h2⟩:=rfew_in hr hx
 exact⟨by omega,h2⟩
theorem rErrors_p(r:Ros)(hf:r.Fit)(h d:Int):PureV S 32 [r.av,.int .i64 h,.int .i64 d] (.tup [.agg [.int .i64 (errorsL r h d).1,.int .i64 (errorsL r h d).2],.int .i64 (errorsE r h d)]):=by
 have hch:=rcheckHand_p (S:=S) r hf h
 have hkn:=rknown_p (S:=S) r hf
 have he:errorsE r h d=if rhandE r h≠0 then rhandE r h else if isDayE d≠0 then isDayE d else knownE r []:=known_hand
 have hl:errorsL r h d=if errorsE r h d=0 then errsL r (explR r (entsL r)) h d else(0,0):=rfl
 have hin:rhandE r h=0→knownE r []=0→0≤h∧h<r.hands:=fun h1 h2=>by
  have:knownE r [isHandE r.hands h,0]=0:=by rw[known_hand,if_neg (fun c=>c h1),if_neg (fun c=>c rfl)];exact h2
  exact hand_in this
 rw[hl]
 clear hl
 refine PvE (Tryz.envOK (S:=S) 38 (fun _=>([],[])) fs422 fs422_ok) (.tup (by simp only[List.mem_cons,List.not_mem_nil,or_false,forall_eq_or_imp,forall_eq];exact⟨pair_plain _ _,.int⟩)) Tryz.kp32 Tryz.func32 rfl ?_
 intro σ
 generalize errorsE r h d=ee at *
 by_cases h1:rhandE r h=0
 ·rw[h1] at hch he
  rw[if_neg (fun c=>c rfl)] at he
  by_cases h2:0≤d∧d≤60
  ·rw[show isDayE d=0 from if_pos h2,if_neg (fun c=>c rfl)] at he
   subst he
   have h2':decide (0≤d∧d≤60)=true:=decide_eq_true h2
   by_cases h3:knownE r []=0
   ·have hes:=errs_same h3 (h:=h) h2
    have hi:=hin h1 h3
    have hg:=known_good h3
    have hre:=rerrors_p (S:=S) r hg.setl (rkn r).2 (by rw[show rkn r=rfew r from if_pos h3];have:=rfew_len hg.toHead;omega) h d hi.1 (by rw[show rkn r=rfew r from if_pos h3];exact rfew_xok hg.toHead hi.2) h2
    rw[hes] at hre
    rw[if_pos h3]
    rw[h3] at hkn⊢
    generalize errsL r (explR r (entsL r)) h d=E at *
    generalize (rkn r).1=A at *
    generalize (rkn r).2=B at *
    simp only[Ros.av,htss] at hch hkn hre⊢
    simp -implicitDefEqProofs (maxSteps:=9^9) (disch:=omega) only[go_sem,simprocAttr]
    refine hch _ _ ?_
    simp -implicitDefEqProofs (maxSteps:=9^9) (disch:=omega) only[go_sem,simprocAttr,h2']
    refine hkn _ _ ?_
    simp -implicitDefEqProofs (maxSteps:=9^9) (disch:=omega) only[go_sem,simprocAttr]
    refine hre _ _ ?_
    simp -implicitDefEqProofs (maxSteps:=9^9) (disch:=omega) only[go_sem,simprocAttr]
   ·rw[if_neg h3]
    have h3':(knownE r []=0)=False:=eq_false h3
    simp only[Ros.av,htss] at hch hkn⊢
    simp -implicitDefEqProofs (maxSteps:=9^9) (disch:=omega) only[go_sem,simprocAttr]
    refine hch _ _ ?_
    simp -implicitDefEqProofs (maxSteps:=9^9) (disch:=omega) only[go_sem,simprocAttr,h2']
    refine hkn _ _ ?_
    simp -implicitDefEqProofs (maxSteps:=9^9) (disch:=omega) only[go_sem,simprocAttr,h3']
  ·rw[show isDayE d=1 from if_neg h2,if_pos (by decide)] at he
   subst he
   have h2':decide (0≤d∧d≤60)=false:=decide_eq_false h2
   rw[if_neg (by decide)]
   simp only[Ros.av] at hch⊢
   simp -implicitDefEqProofs (maxSteps:=9^9) (disch:=omega) only[go_sem,simprocAttr]
   refine hch _ _ ?_
   simp -implicitDefEqProofs (maxSteps:=9^9) (disch:=omega) only[go_sem,simprocAttr,h2']
 ·rw[if_pos h1] at he
  subst he
  rw[if_neg h1]
  have h1':(rhandE r h=0)=False:=eq_false h1
  simp only[Ros.av] at hch⊢
  simp -implicitDefEqProofs (maxSteps:=9^9) (disch:=omega) only[go_sem,simprocAttr]
  refine hch _ _ ?_
  simp -implicitDefEqProofs (maxSteps:=9^9) (disch:=omega) only[go_sem,simprocAttr,h1']
/-! The reference's Test and Trusted. -/
theorem dueE_eq(d due:Int):dueE d due=if(0≤d∧d≤60)∧(1≤due∧due≤100000) then 0 else 1:=by
 unfold dueE isDayE
 by_cases h1:1≤due∧due≤100000
 ·by_cases h2:0≤d∧d≤60
  ·rw[if_pos h1,if_pos h2,if_pos ⟨h2,h1⟩]
  ·rw[if_pos h1,if_neg h2,if_neg (fun c=>h2 c.1)]
 ·rw[if_neg h1,if_neg (fun c=>h1 c.2)]
theorem rTest_p(r:Ros)(hf:r.Fit)(h d due:Int):PureV S 34 [r.av,.int .i64 h,.int .i64 d,.int .i64 due] (.tup [.agg [.int .i64 (testL r h d due).1,.int .i64 (testL r h d due).2],.int .i64 (testE r h d due)]):=by
 have hch:=rcheckHand_p (S:=S) r hf h
 have hkn:=rknown_p (S:=S) r hf
 have he:testE r h d due=if rhandE r h≠0 then rhandE r h else if dueE d due≠0 then dueE d due else knownE r []:=known_hand
 have hl:testL r h d due=if testE r h d due=0 then(due+(errsL r (explR r (entsL r)) h d).1-r.skill,due+(errsL r (explR r (entsL r)) h d).2+r.skill) else(0,0):=rfl
 have hin:rhandE r h=0→knownE r []=0→0≤h∧h<r.hands:=fun h1 h2=>by
  have:knownE r [isHandE r.hands h,0]=0:=by rw[known_hand,if_neg (fun c=>c h1),if_neg (fun c=>c rfl)];exact h2
  exact hand_in this
 rw[hl]
 clear hl
 refine PvE (Tryz.envOK (S:=S) 61 (fun _=>([],[])) fs422 fs422_ok) (.tup (by simp only[List.mem_cons,List.not_mem_nil,or_false,forall_eq_or_imp,forall_eq];exact⟨pair_plain _ _,.int⟩)) Tryz.kp34 Tryz.func34 rfl ?_
 intro σ
 generalize testE r h d due=ee at *
 by_cases h1:rhandE r h=0
 ·rw[h1] at hch he
  rw[if_neg (fun c=>c rfl)] at he
  by_cases h2:0≤d∧d≤60
  ·have h2':decide (0≤d∧d≤60)=true:=decide_eq_true h2
   by_cases h4:1≤due∧due≤100000
   ·have h4':decide (1≤due∧due≤100000)=true:=decide_eq_true h4
    rw[show dueE d due=0 by rw[dueE_eq,if_pos ⟨h2,h4⟩],if_neg (fun c=>c rfl)] at he
    subst he
    by_cases h3:knownE r []=0
    ·have hes:=errs_same h3 (h:=h) h2
     have hi:=hin h1 h3
     have hg:=known_good h3
     have hsk:=hg.skill
     have hEi:=errsL_in (explR_okL hg) (h:=h) h2
     have hre:=rerrors_p (S:=S) r hg.setl (rkn r).2 (by rw[show rkn r=rfew r from if_pos h3];have:=rfew_len hg.toHead;omega) h d hi.1 (by rw[show rkn r=rfew r from if_pos h3];exact rfew_xok hg.toHead hi.2) h2
     rw[hes] at hre
     rw[if_pos h3]
     rw[h3] at hkn⊢
     generalize errsL r (explR r (entsL r)) h d=E at *
     generalize (rkn r).1=A at *
     generalize (rkn r).2=B at *
     have w1:IntKind.i64.wrap (due+E.1)=due+E.1:=wrap64 (by omega) (by omega)
     have w2:IntKind.i64.wrap (due+E.2)=due+E.2:=wrap64 (by omega) (by omega)
     have w3:IntKind.i64.wrap (due+E.1-r.skill)=due+E.1-r.skill:=wrap64 (by omega) (by omega)
     have w4:IntKind.i64.wrap (due+E.2+r.skill)=due+E.2+r.skill:=wrap64 (by omega) (by omega)
     simp only[Ros.av,htss] at hch hkn hre⊢
     simp -implicitDefEqProofs (maxSteps:=9^9) (disch:=omega) only[go_sem,simprocAttr]
     refine hch _ _ ?_
     simp -implicitDefEqProofs (maxSteps:=9^9) (disch:=omega) only[go_sem,simprocAttr,h2',h4']
     refine hkn _ _ ?_
     simp -implicitDefEqProofs (maxSteps:=9^9) (disch:=omega) only[go_sem,simprocAttr]
     refine hre _ _ ?_
     simp -implicitDefEqProofs (maxSteps:=9^9) (disch:=omega) only[go_sem,simprocAttr,w1,w2,w3,w4]
    ·rw[if_neg h3]
     have h3':(knownE r []=0)=False:=eq_false h3
     simp only[Ros.av,htss] at hch hkn⊢
     simp -implicitDefEqProofs (maxSteps:=9^9) (disch:=omega) only[go_sem,simprocAttr]
     refine hch _ _ ?_
     simp -implicitDefEqProofs (maxSteps:=9^9) (disch:=omega) only[go_sem,simprocAttr,h2',h4']
     refine hkn _ _ ?_
     simp -implicitDefEqProofs (maxSteps:=9^9) (disch:=omega) only[go_sem,simprocAttr,h3']
   ·have h4':decide (1≤due∧due≤100000)=false:=decide_eq_false h4
    rw[show dueE d due=1 by rw[dueE_eq,if_neg (fun c=>h4 c.2)],if_pos (by decide)] at he
    subst he
    rw[if_neg (by decide)]
    simp only[Ros.av] at hch⊢
    simp -implicitDefEqProofs (maxSteps:=9^9) (disch:=omega) only[go_sem,simprocAttr]
    refine hch _ _ ?_
    simp -implicitDefEqProofs (maxSteps:=9^9) (disch:=omega) only[go_sem,simprocAttr,h2',h4']
  ·rw[show dueE d due=1 by rw[dueE_eq,if_neg (fun c=>h2 c.1)],if_pos (by decide)] at he
   subst he
   have h2':decide (0≤d∧d≤60)=false:=decide_eq_false h2
   rw[if_neg (by decide)]
   simp only[Ros.av] at hch⊢
   simp -implicitDefEqProofs (maxSteps:=9^9) (disch:=omega) only[go_sem,simprocAttr]
   refine hch _ _ ?_
   simp -implicitDefEqProofs (maxSteps:=9^9) (disch:=omega) only[go_sem,simprocAttr,h2']
 ·rw[if_pos h1] at he
  subst he
  rw[if_neg h1]
  have h1':(rhandE r h=0)=False:=eq_false h1
  simp only[Ros.av] at hch⊢
  simp -implicitDefEqProofs (maxSteps:=9^9) (disch:=omega) only[go_sem,simprocAttr]
  refine hch _ _ ?_
  simp -implicitDefEqProofs (maxSteps:=9^9) (disch:=omega) only[go_sem,simprocAttr,h1']
theorem rTrusted_p(r:Ros)(hf:r.Fit)(h lim:Int)(hlim:lim≤9223372036854775807):PureV S 36 [r.av,.int .i64 h,.int .i64 lim] (.tup [.int .i64 (trustL r h lim),.int .i64 (trustE r h lim)]):=by
 have hch:=rcheckHand_p (S:=S) r hf h
 have hkn:=rknown_p (S:=S) r hf
 have he:trustE r h lim=if rhandE r h≠0 then rhandE r h else if limE lim≠0 then limE lim else knownE r []:=known_hand
 have hl:trustL r h lim=if trustE r h lim=0 then trustF r (explR r (entsL r)) h lim 60 (fromL r.sets h 60) else 0:=rfl
 have hin:rhandE r h=0→knownE r []=0→0≤h∧h<r.hands:=fun h1 h2=>by
  have:knownE r [isHandE r.hands h,0]=0:=by rw[known_hand,if_neg (fun c=>c h1),if_neg (fun c=>c rfl)];exact h2
  exact hand_in this
 rw[hl]
 clear hl
 refine PvE (Tryz.envOK (S:=S) 56 (fun _=>([],[])) fs422 fs422_ok) (.tup (by simp only[List.mem_cons,List.not_mem_nil,or_false,forall_eq_or_imp,forall_eq];exact⟨.int,.int⟩)) Tryz.kp36 Tryz.func36 rfl ?_
 intro σ
 generalize trustE r h lim=ee at *
 by_cases h1:rhandE r h=0
 ·rw[h1] at hch he
  rw[if_neg (fun c=>c rfl)] at he
  by_cases h2:lim<0
  ·rw[show limE lim=1 from if_pos h2,if_pos (by decide)] at he
   subst he
   have h2':(lim<0)=True:=eq_true h2
   rw[if_neg (by decide)]
   simp only[Ros.av] at hch⊢
   simp -implicitDefEqProofs (maxSteps:=9^9) (disch:=omega) only[go_sem,simprocAttr]
   refine hch _ _ ?_
   simp -implicitDefEqProofs (maxSteps:=9^9) (disch:=omega) only[go_sem,simprocAttr,h2']
  ·rw[show limE lim=0 from if_neg h2,if_neg (fun c=>c rfl)] at he
   subst he
   have h2':(lim<0)=False:=eq_false h2
   by_cases h3:knownE r []=0
   ·have hi:=hin h1 h3
    have hg:=known_good h3
    have hes:=fun d hd=>errs_same h3 (h:=h) (d:=d) hd
    have hre:=fun d hd=>rerrors_p (S:=S) r hg.setl (rkn r).2 (by rw[show rkn r=rfew r from if_pos h3];have:=rfew_len hg.toHead;omega) h d hi.1 (by rw[show rkn r=rfew r from if_pos h3];exact rfew_xok hg.toHead hi.2) hd
    have hre2:∀d,0≤d∧d≤60→PureV S 98 [r.av,htss (rkn r).2,.int .i64 h,.int .i64 d] (.agg [.int .i64 (errsL r (explR r (entsL r)) h d).1,.int .i64 (errsL r (explR r (entsL r)) h d).2]):=fun d hd=>by rw[← hes d hd];exact hre d hd
    have hEin:=fun d hd=>errsL_in (explR_okL hg) (h:=h) (d:=d) hd
    have hsi:=rsince_p (S:=S) r hg.setl h 60 (by omega)
    have hfi:=@fromL_in r.sets h 60 (by decide)
    clear hre hes
    rw[if_pos h3]
    rw[h3] at hkn⊢
    generalize (rkn r).1=A at *
    generalize (rkn r).2=B at *
    generalize fromL r.sets h 60=d0 at *
    simp only[Ros.av,htss] at hch hkn hre2 hsi⊢
    simp -implicitDefEqProofs (maxSteps:=9^9) (disch:=omega) only[go_sem,simprocAttr]
    refine hch _ _ ?_
    simp -implicitDefEqProofs (maxSteps:=9^9) (disch:=omega) only[go_sem,simprocAttr,h2']
    refine hkn _ _ ?_
    simp -implicitDefEqProofs (maxSteps:=9^9) (disch:=omega) only[go_sem,simprocAttr]
    refine hsi _ _ ?_
    simp -implicitDefEqProofs (maxSteps:=9^9) (disch:=omega) only[go_sem,simprocAttr]
    obtain⟨σ1,hσ1⟩:∃σ1,σ1=σ++[AObj.cells [.int .i64 r.hands,.int .i64 r.skill,.int .i64 r.mn,.int .i64 r.mx,.list .no 2 (r.sets.map Sg.av),.list .no 6 (r.ents.map Tn.av)]]:=⟨_,rfl⟩
    have hr0:∀j,hget (σ1++j) σ.length=some (.cells [.int .i64 r.hands,.int .i64 r.skill,.int .i64 r.mn,.int .i64 r.mx,.list .no 2 (r.sets.map Sg.av),.list .no 6 (r.ents.map Tn.av)]):=fun j=>by rw[hσ1,List.append_assoc];exact hget_at0
    have hfin:∀j2,∃junk,σ1++j2=σ++junk:=fun j2=>⟨_::j2,by rw[hσ1,List.append_assoc];rfl⟩
    rw[← hσ1]
    refine ARun.loopJ (Tryz.envOK (S:=S) 56 (fun _=>([],[])) fs422 fs422_ok) (α:=Int) (fun d=>(60-d).toNat) (fun d τ=>(∃j2,τ=σ1++j2)∧(0≤d∧d≤60)∧∃n,(60-d).toNat≤n∧trustF r (explR r (entsL r)) h lim n d=trustF r (explR r (entsL r)) h lim 60 d0) (fun d=>[(12,.int .i64 d)]) d0 (by kernel_rfl) (by simp[upd,ins,subF,lookA]) ⟨⟨[],by simp⟩,hfi,60,by omega,rfl⟩ ?_
    rintro d τ ⟨⟨j2,rfl⟩,hd,n,hn,ht⟩ ih
    by_cases hdl:d<60
    ·have hdl':(d<60)=True:=eq_true hdl
     obtain⟨n,rfl⟩:∃m,n=m+1:=⟨n-1,by omega⟩
     have hEi:=hEin (d+1) (by omega)
     have hre:=hre2 (d+1) (by omega)
     have hwd:IntKind.i64.wrap (d+1)=d+1:=wrap64 (by omega) (by omega)
     have hwl:IntKind.i64.wrap (-lim)= -lim:=wrap64 (by omega) (by omega)
     have hts:trustF r (explR r (entsL r)) h lim (n+1) d=if(errsL r (explR r (entsL r)) h (d+1)).1< -lim∨lim<(errsL r (explR r (entsL r)) h (d+1)).2 then d else trustF r (explR r (entsL r)) h lim n (d+1):=by simp only[trustF,if_pos hdl]
     rw[hts] at ht
     clear hre2 hEin
     generalize errsL r (explR r (entsL r)) h (d+1)=E at hEi ht hre
     simp -implicitDefEqProofs (maxSteps:=9^9) (disch:=omega) only[go_sem,simprocAttr,hdl',hr0,hwd]
     refine hre _ _ ?_
     have hg1:∀v l,v=trustF r (explR r (entsL r)) h lim 60 d0→Gives σ (AV.tup [AV.int IntKind.i64 (trustF r (explR r (entsL r)) h lim 60 d0),AV.int IntKind.i64 0]) (AV.tup [AV.int IntKind.i64 v,AV.int IntKind.i64 0]) (σ1++l):=fun v l hv=>⟨hfin l,by rw[hv];simp[wk,wkL,wk1,wk0]⟩
     by_cases p1:E.1< -lim
     ·have p1':(E.1< -lim)=True:=eq_true p1
      rw[if_pos (.inl p1)] at ht
      simp -implicitDefEqProofs (maxSteps:=9^9) (disch:=omega) only[go_sem,simprocAttr,hr0,hwl,p1']
      exact hg1 _ _ ht
     ·have p1':(E.1< -lim)=False:=eq_false p1
      by_cases p2:lim<E.2
      ·have p2':(lim<E.2)=True:=eq_true p2
       rw[if_pos (.inr p2)] at ht
       simp -implicitDefEqProofs (maxSteps:=9^9) (disch:=omega) only[go_sem,simprocAttr,hr0,hwl,p1',p2']
       exact hg1 _ _ ht
      ·have p2':(lim<E.2)=False:=eq_false p2
       rw[if_neg (fun c=>by rcases c with c | c;exact p1 c;exact p2 c)] at ht
       simp -implicitDefEqProofs (maxSteps:=9^9) (disch:=omega) only[go_sem,simprocAttr,hr0,hwl,p1',p2',hwd]
       exact(ih (d+1) _ (by omega) ⟨⟨j2++[AObj.cells [AV.int IntKind.i64 E.fst,AV.int IntKind.i64 E.snd]],rfl⟩,by omega,n,by omega,ht⟩).castS (by simp) (by simp[upd,ins,subF,lookA])
    ·have hdl':(d<60)=False:=eq_false hdl
     have hdt:trustF r (explR r (entsL r)) h lim n d=d:=by
      cases n with
      | zero=>rfl
      | succ n=>simp only[trustF,if_neg hdl]
     rw[hdt] at ht
     rw[← ht]
     simp -implicitDefEqProofs (maxSteps:=9^9) (disch:=omega) only[go_sem,simprocAttr,hdl']
     exact⟨hfin j2,by simp[wk,wkL,wk1,wk0]⟩
   ·have h3':(knownE r []=0)=False:=eq_false h3
    rw[if_neg h3]
    simp only[Ros.av,htss] at hch hkn⊢
    simp -implicitDefEqProofs (maxSteps:=9^9) (disch:=omega) only[go_sem,simprocAttr]
    refine hch _ _ ?_
    simp -implicitDefEqProofs (maxSteps:=9^9) (disch:=omega) only[go_sem,simprocAttr,h2']
    refine hkn _ _ ?_
    simp -implicitDefEqProofs (maxSteps:=9^9) (disch:=omega) only[go_sem,simprocAttr,h3']
 ·rw[if_pos h1] at he
  subst he
  rw[if_neg h1]
  have h1':(rhandE r h=0)=False:=eq_false h1
  simp only[Ros.av] at hch⊢
  simp -implicitDefEqProofs (maxSteps:=9^9) (disch:=omega) only[go_sem,simprocAttr]
  refine hch _ _ ?_
  simp -implicitDefEqProofs (maxSteps:=9^9) (disch:=omega) only[go_sem,simprocAttr,h1']
end Go.Proofs
namespace Go.Proofs
open Go Go.Mu Go.Ins
theorem handErrors_law(r:Ros)(x:Tn)(who day due lim:Int)(hlim:lim≤9223372036854775807)(l:List Int)(hl:l.length≤4294967296)(h1:r.sets.length≤4294967296)(h2:r.ents.length≤4294967296)(h3:∀y∈r.ents,y.ear.tones.length≤4294967296∧y.ear.rds.length≤4294967296)(h4:x.ear.tones.length≤4294967296∧x.ear.rds.length≤4294967296)(σ:List AObj) :
  ACalls SBes 4 [r.av,x.av,.int .i64 who,.int .i64 day,.int .i64 due,.int .i64 lim,.list .no 1 (l.map (.int .i64))] σ fun v _=>v= .bool true:=by
 refine AcE (Tryz.envOK (S:=SBes) 144 Tryz.ord4 fs408 fs408_ok) Tryz.kp4 Tryz.func4 rfl ?_
 have hcr:=crowd11_p (S:=SBes) r h1 h2 h3
 have hld:=loud11_p (S:=SBes) x.ear h4.1 h4.2
 have hrs:=fun σ Q h=>rosters_c r x l hl σ Q h
 have hfc:=@crowdB_few r
 have hfl:=@loudB_few x.ear
 generalize hC:crowdB r=C at *
 generalize loudB x.ear=Lo at *
 obtain⟨rav,hrav⟩:∃v,v=r.av:=⟨_,rfl⟩
 simp only[Ros.av,Tn.av,Tn.cells,Ear.av] at hcr hld hrs⊢
 cases C
 ·simp -implicitDefEqProofs (maxSteps:=9^9) (disch:=omega) only[go_sem,simprocAttr]
  refine hcr _ _ ?_
  cases Lo
  ·simp -implicitDefEqProofs (maxSteps:=9^9) (disch:=omega) only[go_sem,simprocAttr]
   refine hld _ _ ?_
   simp -implicitDefEqProofs (maxSteps:=9^9) (disch:=omega) only[go_sem,simprocAttr]
   refine hrs _ _ fun made rates by_ j hT=>?_
   have hF1:=hfc rfl
   have hF2:=hT.few (by omega)
   have hel:=hT.el
   have hF3:=hF2.snoc (x:=x) (by omega) (hfl rfl)
   obtain⟨RS,hRS⟩:∃RS,RS=[r,made,made.snoc x]:=⟨_,rfl⟩
   have hlen:RS.length=3:=by rw[hRS];rfl
   have hfew:∀y∈RS,y.Few:=fun y hy=>by rw[hRS] at hy;simp at hy;rcases hy with rfl | rfl | rfl<;> assumption
   rw[← hRS]
   clear hRS hF1 hF2 hF3 hT hcr hld hrs hfc hfl hel hC
   obtain⟨σ1,hσ1⟩:∃σ1,σ1=σ++(AObj.cells [.int .i64 r.hands,.int .i64 r.skill,.int .i64 r.mn,.int .i64 r.mx,.list .no 2 (r.sets.map Sg.av),.list .no 6 (r.ents.map Tn.av)]::AObj.cells [.int .i64 x.day,.int .i64 x.hand,.int .i64 x.due,.int .i64 x.ear.slack,.list .no 2 (x.ear.tones.map Rng.av),.list .no 6 (x.ear.rds.map Rd.av)]::j):=⟨_,rfl⟩
   simp only[List.append_assoc,List.cons_append,List.nil_append]
   rw[← hσ1]
   clear hσ1
   simp -implicitDefEqProofs (maxSteps:=9^9) (disch:=omega) only[go_sem,simprocAttr,hlen]
   refine ARun.forS (Tryz.envOK (S:=SBes) 144 Tryz.ord4 fs408 fs408_ok) 3 (fun _=>True) (fun i=>[(16,.int .i64 i)]) (fun _ j=>σ1++j) [] (by kernel_rfl) (by simp) (by simp[upd,ins,subF,lookA]) trivial ?_ ?_
   ·intro i j hi _ ih
    have hidx:idx (RS.map Ros.av) (i:Int)=some (Ros.av (RS[i]'(by omega))):=idx_nat (by omega)
    have hfy:=hfew _ (List.getElem_mem (l:=RS) (n:=i) (by omega))
    have hwi:IntKind.i64.wrap ((i:Int)+1)=((i+1:Nat):Int):=by rw[wrap64 (by omega) (by omega)];rfl
    have hi3:((i:Int)<3)=True:=eq_true (by omega)
    generalize RS[i]'(by omega)=y at *
    have hfit:=hfy.fit
    have hs1:=hfy.sets
    have hs2:=hfy.ents
    have hcp:=hcopyRos_p y (by omega) (by omega) hfit.ear
    have h1:=errors_p y hfit who day
    have h2:=rErrors_p (S:=SBes) y hfit who day
    have h3:=test_p y hfit who day due
    have h4:=rTest_p (S:=SBes) y hfit who day due
    have h5:=trusted_p y hfit who lim hlim
    have h6:=rTrusted_p (S:=SBes) y hfit who lim hlim
    have hss:=sameRos_p (S:=SBes) y hfit.sets hfit.ents hfit.ear
    generalize (errorsL y who day).1=n1 at *
    generalize (errorsL y who day).2=n2 at *
    generalize errorsE y who day=n3 at *
    generalize (testL y who day due).1=n4 at *
    generalize (testL y who day due).2=n5 at *
    generalize testE y who day due=n6 at *
    generalize trustL y who lim=n7 at *
    generalize trustE y who lim=n8 at *
    have hav:y.av= .agg [.int .i64 y.hands,.int .i64 y.skill,.int .i64 y.mn,.int .i64 y.mx,.list .no 2 (y.sets.map Sg.av),.list .no 6 (y.ents.map Tn.av)]:=rfl
    rw[hav] at hidx hcp h1 h2 h3 h4 h5 h6 hss
    simp -implicitDefEqProofs (maxSteps:=9^9) (disch:=omega) only[go_sem,simprocAttr,hidx,hi3]
    refine hcp _ _ ?_
    simp -implicitDefEqProofs (maxSteps:=9^9) (disch:=omega) only[go_sem,simprocAttr,hidx]
    refine h1 _ _ ?_
    simp -implicitDefEqProofs (maxSteps:=9^9) (disch:=omega) only[go_sem,simprocAttr,hidx]
    refine h2 _ _ ?_
    simp -implicitDefEqProofs (maxSteps:=9^9) (disch:=omega) only[go_sem,simprocAttr,hidx]
    refine h3 _ _ ?_
    simp -implicitDefEqProofs (maxSteps:=9^9) (disch:=omega) only[go_sem,simprocAttr,hidx]
    refine h4 _ _ ?_
    simp -implicitDefEqProofs (maxSteps:=9^9) (disch:=omega) only[go_sem,simprocAttr,hidx]
    refine h5 _ _ ?_
    simp -implicitDefEqProofs (maxSteps:=9^9) (disch:=omega) only[go_sem,simprocAttr,hidx]
    refine h6 _ _ ?_
    simp -implicitDefEqProofs (maxSteps:=9^9) (disch:=omega) only[go_sem,simprocAttr,hidx]
    refine hss _ _ ?_
    simp -implicitDefEqProofs (maxSteps:=9^9) (disch:=omega) only[go_sem,simprocAttr,hidx,hwi]
    exact(ih trivial (j++[AObj.cells [.int .i64 y.hands,.int .i64 y.skill,.int .i64 y.mn,.int .i64 y.mx,.list .no 2 (y.sets.map Sg.av),.list .no 6 (y.ents.map Tn.av)],.cells [.int .i64 n1,.int .i64 n2],.cells [.int .i64 n1,.int .i64 n2],.cells [.int .i64 n4,.int .i64 n5],.cells [.int .i64 n4,.int .i64 n5]])).castS rfl (by simp[upd,ins,subF,lookA])
   ·intro j _
    simp -implicitDefEqProofs (maxSteps:=9^9) (disch:=omega) only[go_sem,simprocAttr,hlen]
    refine steady_p _ _ ?_
    simp -implicitDefEqProofs (maxSteps:=9^9) (disch:=omega) only[go_sem,simprocAttr]
  ·simp -implicitDefEqProofs (maxSteps:=9^9) (disch:=omega) only[go_sem,simprocAttr]
   refine hld _ _ ?_
   simp -implicitDefEqProofs (maxSteps:=9^9) (disch:=omega) only[go_sem,simprocAttr]
   refine steady_p _ _ ?_
   simp -implicitDefEqProofs (maxSteps:=9^9) (disch:=omega) only[go_sem,simprocAttr]
 ·simp -implicitDefEqProofs (maxSteps:=9^9) (disch:=omega) only[go_sem,simprocAttr]
  refine hcr _ _ ?_
  simp -implicitDefEqProofs (maxSteps:=9^9) (disch:=omega) only[go_sem,simprocAttr]
  refine steady_p _ _ ?_
  simp -implicitDefEqProofs (maxSteps:=9^9) (disch:=omega) only[go_sem,simprocAttr]
end Go.Proofs
