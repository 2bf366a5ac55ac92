/- Texts of a proof: lemmas. -/
import Derived.Test.YtgbdndlmdklefaaGreatEK34
set_option linter.unusedSimpArgs false
set_option linter.unusedVariables false
set_option maxRecDepth 100000
set_option maxHeartbeats 40000000
namespace Go.Proofs
open Go Go.Mu Go.Ins
def convV(F:List (List Int))(h:Int):Int:=if cntL F h=F.length then 1 else if cntL F h=0 then 2 else 3
def convF(F:List (List Int))(n:Nat):List Int:=(List.range n).map fun(h:Nat)=>convV F h
def convL(r:Ros):List Int:=if knownE r []=0 then convF (fewL r) r.hands.toNat else[]
theorem convF_succ{F:List (List Int)}{n:Nat}:convF F (n+1)=convF F n++[convV F n]:=by unfold convF;rw[List.range_succ,List.map_append];rfl
theorem known_good{r:Ros}{ws:List Int}(h:knownE r ws=0):r.Good:=by
 have hr:rosE r=0:=by
  unfold knownE at h
  by_cases h1:rosE r≠0
  ·rw[if_pos h1] at h;exact h
  ·exact Classical.byContradiction h1
 unfold rosE at hr
 by_cases h2:headE r≠0
 ·rw[if_pos h2] at hr;exact absurd hr h2
 ·rw[if_neg h2] at hr
  exact Ros.good_of (Classical.byContradiction h2) hr
theorem fewL_few(r:Ros):(fewL r).length≤6∧∀x∈fewL r,x.length≤4:=by
 unfold fewL
 split
 ·rename_i h
  refine⟨?_,fun x hx=>setsL_el hx⟩
  rw[setsL_len]
  exact drifts_few (known_good h).toHead _
 ·simp
theorem convicts_p(r:Ros)(hf:r.Fit):PureV SBes 23 [r.av] (.tup [ints1 (convL r),.int .i64 (knownE r [])]):=by
 refine PvE (Tryz.envOK (S:=SBes) 41 (fun _=>([],[])) fs407 fs407_ok) (.tup (by simp only[List.mem_cons,List.not_mem_nil,or_false,forall_eq_or_imp,forall_eq];exact⟨(ints1_good _).2,.int⟩)) Tryz.kp23 Tryz.func23 rfl ?_
 intro σ
 simp only[Ros.av]
 simp -implicitDefEqProofs (maxSteps:=9^9) (disch:=omega) only[go_sem,simprocAttr]
 refine fewest_p r hf _ _ ?_
 obtain⟨hF6,hF4⟩:=fewL_few r
 by_cases hE:knownE r []=0
 ·have hg:=known_good hE
  have hh:=hg.hands
  have hH:(r.hands.toNat:Int)=r.hands:=by omega
  rw[show convL r=convF (fewL r) r.hands.toNat from if_pos hE,hE]
  generalize fewL r=F at hF6 hF4⊢
  simp -implicitDefEqProofs (maxSteps:=9^9) (disch:=omega) only[go_sem,simprocAttr]
  refine ARun.ghost 6 1 (sz0:=0) rfl (by simp[lookA]) ?_
  simp only[ins,↓reduceIte,Nat.reduceEqDiff,List.append_assoc,List.cons_append,List.nil_append,List.length_append,List.length_cons,List.length_nil,Nat.zero_add]
  refine ARun.forS (Tryz.envOK (S:=SBes) 41 (fun _=>([],[])) fs407 fs407_ok) r.hands.toNat (fun _=>True) (fun i=>[(6,.list (.own (σ.length+1)) 1 ((convF F i).map (.int .i64))),(18,.int .i64 i)]) (fun i _=>σ++[.cells [.int .i64 r.hands,.int .i64 r.skill,.int .i64 r.mn,.int .i64 r.mx,.list .no 2 (r.sets.map Sg.av),.list .no 6 (r.ents.map Tn.av)],.tail (convF F i).length 1]) [] (by kernel_rfl) (by simp[convF]) (by simp[upd,ins,subF,lookA,convF,hH]) trivial ?_ ?_
  ·intro i j hi _ ih
   have hcl:(convF F i).length=i:=by simp[convF]
   rw[convF_succ] at ih
   have hwi:IntKind.i64.wrap ((i:Int)+1)=((i+1:Nat):Int):=by rw[wrap64 (by omega) (by omega)];rfl
   generalize convF F i=C at hcl ih⊢
   have hcv:convV F i=if cntL F i=F.length then 1 else if cntL F i=0 then 2 else 3:=rfl
   have hFe:∀x∈F,x.length≤1000000:=fun x hx=>by have:=hF4 x hx;omega
   simp -implicitDefEqProofs (maxSteps:=9^9) (disch:=omega) only[go_sem,simprocAttr]
   refine hcount_p F i (by omega) hFe _ _ ?_
   generalize cntL F i=c at hcv⊢
   by_cases c1:c=F.length
   ·rw[if_pos c1] at hcv
    rw[hcv] at ih
    have c1':((c:Int)=F.length)=True:=eq_true (by omega)
    simp -implicitDefEqProofs (maxSteps:=9^9) (disch:=omega) only[go_sem,simprocAttr,c1',hcl,hwi]
    exact(ih trivial []).castS (by simp[hcl]) (by simp[upd,ins,subF,lookA])
   ·rw[if_neg c1] at hcv
    have c1':((c:Int)=F.length)=False:=eq_false (by omega)
    by_cases c2:c=0
    ·rw[if_pos c2] at hcv
     rw[hcv] at ih
     have c2':((c:Int)=0)=True:=eq_true (by omega)
     simp -implicitDefEqProofs (maxSteps:=9^9) (disch:=omega) only[go_sem,simprocAttr,c1',c2',hcl,hwi]
     exact(ih trivial []).castS (by simp[hcl]) (by simp[upd,ins,subF,lookA])
    ·rw[if_neg c2] at hcv
     rw[hcv] at ih
     have c2':((c:Int)=0)=False:=eq_false (by omega)
     simp -implicitDefEqProofs (maxSteps:=9^9) (disch:=omega) only[go_sem,simprocAttr,c1',c2',hcl,hwi]
     exact(ih trivial []).castS (by simp[hcl]) (by simp[upd,ins,subF,lookA])
  ·intro j _
   simp -implicitDefEqProofs (maxSteps:=9^9) (disch:=omega) only[go_sem,simprocAttr,ints1]
 ·have hE':(knownE r []=0)=False:=eq_false hE
  rw[show convL r=[] from if_neg hE]
  simp -implicitDefEqProofs (maxSteps:=9^9) (disch:=omega) only[go_sem,simprocAttr,hE',ints1]
theorem explR_okL{r:Ros}(hg:r.Good):∀x∈explR r (entsL r),OkX r x:=fun x hx=>explR_ok hg.toHead hx
theorem hand_in{r:Ros}{ws:List Int}{h:Int}(hk:knownE r (isHandE r.hands h::ws)=0):0≤h∧h<r.hands:=by
 have hg:=known_good hk
 have hh:=hg.hands
 have hz:firstNZ (isHandE r.hands h::ws)=0:=by
  unfold knownE at hk
  by_cases h1:rosE r≠0
  ·rw[if_pos h1] at hk;exact absurd hk h1
  ·rw[if_neg h1] at hk
   exact Classical.byContradiction fun h2=>by rw[if_pos h2] at hk;exact h2 hk
 have h0:=firstNZ_all hz (isHandE r.hands h) (by simp)
 unfold isHandE at h0
 rw[wrap64 (by omega) (by omega)] at h0
 split at h0
 ·omega
 ·cases h0
theorem known_ws{r:Ros}{ws:List Int}(hk:knownE r ws=0):∀w∈ws,w=0:=by
 have hz:firstNZ ws=0:=by
  unfold knownE at hk
  by_cases h1:rosE r≠0
  ·rw[if_pos h1] at hk;exact absurd hk h1
  ·rw[if_neg h1] at hk
   exact Classical.byContradiction fun h2=>by rw[if_pos h2] at hk;exact h2 hk
 exact firstNZ_all hz
def dueE(d due:Int):Int:=if 1≤due∧due≤100000 then isDayE d else 1
def testE(r:Ros)(h d due:Int):Int:=knownE r [isHandE r.hands h,dueE d due]
def testL(r:Ros)(h d due:Int):Int×Int:=if testE r h d due=0 then(due+(errsL r (explR r (entsL r)) h d).1-r.skill,due+(errsL r (explR r (entsL r)) h d).2+r.skill) else(0,0)
theorem errsL_in{r:Ros}{L:List (List Int)}(hL:∀x∈L,OkX r x){h d:Int}(hd:0≤d∧d≤60): -300≤(errsL r L h d).1∧(errsL r L h d).1≤100000∧ -100000≤(errsL r L h d).2∧(errsL r L h d).2≤300:=
 errF_in L (100000, -100000) (fun x hx=>offX_in (hL x hx) hd) (by decide)
theorem test_p(r:Ros)(hf:r.Fit)(h d due:Int):PureV SBes 33 [r.av,.int .i64 h,.int .i64 d,.int .i64 due] (.tup [.agg [.int .i64 (testL r h d due).1,.int .i64 (testL r h d due).2],.int .i64 (testE r h d due)]):=by
 refine PvE (Tryz.envOK (S:=SBes) 55 Tryz.ord33 fs407 fs407_ok) (.tup (by simp only[List.mem_cons,List.not_mem_nil,or_false,forall_eq_or_imp,forall_eq];exact⟨pair_plain _ _,.int⟩)) Tryz.kp33 Tryz.func33 rfl ?_
 intro σ
 have hte:testE r h d due=knownE r [isHandE r.hands h,dueE d due]:=rfl
 have htl:testL r h d due=if knownE r [isHandE r.hands h,dueE d due]=0 then(due+(errsL r (explR r (entsL r)) h d).1-r.skill,due+(errsL r (explR r (entsL r)) h d).2+r.skill) else(0,0):=rfl
 rw[hte,htl]
 clear hte htl
 simp only[Ros.av]
 simp -implicitDefEqProofs (maxSteps:=9^9) (disch:=omega) only[go_sem,simprocAttr]
 refine isDay_p d _ _ ?_
 by_cases hdu:1≤due∧due≤100000
 ·have e:decide (1≤due∧due≤100000)=true:=decide_eq_true hdu
  have e2:dueE d due=isDayE d:=if_pos hdu
  rw[e2]
  simp -implicitDefEqProofs (maxSteps:=9^9) (disch:=omega) only[go_sem,simprocAttr,e]
  refine isHand_p r h _ _ ?_
  simp -implicitDefEqProofs (maxSteps:=9^9) (disch:=omega) only[go_sem,simprocAttr,e]
  refine ACalls.weaken (l':=[r.av,.list .no 1 ([isHandE r.hands h,isDayE d].map (.int .i64))]) ⟨⟨rfl,rfl,rfl,rfl,⟨rfl,.inl rfl,.inl rfl⟩,⟨rfl,.inl rfl,.inl rfl⟩,trivial⟩,⟨rfl,.inl rfl,.inl rfl⟩,trivial⟩ ?_
  refine known_c r hf [isHandE r.hands h,isDayE d] (by simp) (fun hE j=>?_) (fun hO hg a j ha hm=>?_)
  ·have hE':(knownE r [isHandE r.hands h,isDayE d]=0)=False:=eq_false hE
   rw[if_neg hE]
   simp -implicitDefEqProofs (maxSteps:=9^9) (disch:=omega) only[go_sem,simprocAttr,hE',rosZ]
  ·rw[if_pos hO,hO]
   have hh:=hand_in hO
   have hh4:=hg.hands
   have hsk:=hg.skill
   have hd0:=known_ws hO (isDayE d) (by simp)
   have hd:0≤d∧d≤60:=by
    unfold isDayE at hd0
    split at hd0
    ·assumption
    ·cases hd0
   have hEi:=errsL_in (explR_okL hg) (h:=h) hd
   have w1:IntKind.i64.wrap (due+(errsL r (explR r (entsL r)) h d).1)=due+(errsL r (explR r (entsL r)) h d).1:=wrap64 (by omega) (by omega)
   have w2:IntKind.i64.wrap (due+(errsL r (explR r (entsL r)) h d).2)=due+(errsL r (explR r (entsL r)) h d).2:=wrap64 (by omega) (by omega)
   have w3:IntKind.i64.wrap (due+(errsL r (explR r (entsL r)) h d).1-r.skill)=due+(errsL r (explR r (entsL r)) h d).1-r.skill:=wrap64 (by omega) (by omega)
   have w4:IntKind.i64.wrap (due+(errsL r (explR r (entsL r)) h d).2+r.skill)=due+(errsL r (explR r (entsL r)) h d).2+r.skill:=wrap64 (by omega) (by omega)
   simp only[Ros.wav]
   simp -implicitDefEqProofs (maxSteps:=9^9) (disch:=omega) only[go_sem,simprocAttr]
   refine errs_p r (entsL r) hg.toHead (explR r (entsL r)) (explR_okL hg) (by have:=explR_len hg.toHead (ds:=entsL r);omega) h d (by omega) hd (a:=a) (by first | exact hm | (have:=hgetA (l:=[AObj.cells (r.wcells (entsL r))]) hm;simpa[Ros.wcells] using this)) ?_
   simp -implicitDefEqProofs (maxSteps:=9^9) (disch:=omega) only[go_sem,simprocAttr,w1,w2,w3,w4]
 ·have e:decide (1≤due∧due≤100000)=false:=decide_eq_false hdu
  have e2:dueE d due=1:=if_neg hdu
  rw[e2]
  simp -implicitDefEqProofs (maxSteps:=9^9) (disch:=omega) only[go_sem,simprocAttr,e]
  refine isHand_p r h _ _ ?_
  simp -implicitDefEqProofs (maxSteps:=9^9) (disch:=omega) only[go_sem,simprocAttr,e]
  refine ACalls.weaken (l':=[r.av,.list .no 1 ([isHandE r.hands h,1].map (.int .i64))]) ⟨⟨rfl,rfl,rfl,rfl,⟨rfl,.inl rfl,.inl rfl⟩,⟨rfl,.inl rfl,.inl rfl⟩,trivial⟩,⟨rfl,.inl rfl,.inl rfl⟩,trivial⟩ ?_
  refine known_c r hf [isHandE r.hands h,1] (by simp) (fun hE j=>?_) (fun hO hg a j ha hm=>?_)
  ·have hE':(knownE r [isHandE r.hands h,1]=0)=False:=eq_false hE
   rw[if_neg hE]
   simp -implicitDefEqProofs (maxSteps:=9^9) (disch:=omega) only[go_sem,simprocAttr,hE',rosZ]
  ·rw[if_pos hO,hO]
   have hh:=hand_in hO
   have hh4:=hg.hands
   have hsk:=hg.skill
   have hd0:=known_ws hO (1) (by simp)
   exact absurd hd0 (by decide)
def trustF(r:Ros)(L:List (List Int))(h lim:Int):Nat→Int→Int
 | 0,d=>d
 | n+1,d=>if d<60 then(if(errsL r L h (d+1)).1< -lim∨lim<(errsL r L h (d+1)).2 then d else trustF r L h lim n (d+1)) else d
def limE(lim:Int):Int:=if lim<0 then 1 else 0
def trustE(r:Ros)(h lim:Int):Int:=knownE r [isHandE r.hands h,limE lim]
def trustL(r:Ros)(h lim:Int):Int:=if trustE r h lim=0 then trustF r (explR r (entsL r)) h lim 60 (fromL r.sets h 60) else 0
theorem trusted_p(r:Ros)(hf:r.Fit)(h lim:Int)(hlim:lim≤9223372036854775807):PureV SBes 35 [r.av,.int .i64 h,.int .i64 lim] (.tup [.int .i64 (trustL r h lim),.int .i64 (trustE r h lim)]):=by
 refine PvE (Tryz.envOK (S:=SBes) 70 Tryz.ord35 fs407 fs407_ok) (.tup (by simp only[List.mem_cons,List.not_mem_nil,or_false,forall_eq_or_imp,forall_eq];exact⟨.int,.int⟩)) Tryz.kp35 Tryz.func35 rfl ?_
 intro σ
 have hte:trustE r h lim=knownE r [isHandE r.hands h,limE lim]:=rfl
 have htl:trustL r h lim=if knownE r [isHandE r.hands h,limE lim]=0 then trustF r (explR r (entsL r)) h lim 60 (fromL r.sets h 60) else 0:=rfl
 rw[hte,htl]
 clear hte htl
 simp only[Ros.av]
 by_cases hl0:lim<0
 ·have e2:limE lim=1:=if_pos hl0
  rw[e2]
  have hl0':(lim<0)=True:=eq_true hl0
  simp -implicitDefEqProofs (maxSteps:=9^9) (disch:=omega) only[go_sem,simprocAttr,hl0']
  refine isHand_p r h _ _ ?_
  simp -implicitDefEqProofs (maxSteps:=9^9) (disch:=omega) only[go_sem,simprocAttr,hl0']
  refine ACalls.weaken (l':=[r.av,.list .no 1 ([isHandE r.hands h,1].map (.int .i64))]) ⟨⟨rfl,rfl,rfl,rfl,⟨rfl,.inl rfl,.inl rfl⟩,⟨rfl,.inl rfl,.inl rfl⟩,trivial⟩,⟨rfl,.inl rfl,.inl rfl⟩,trivial⟩ ?_
  refine known_c r hf [isHandE r.hands h,1] (by simp) (fun hE j=>?_) (fun hO hg a j ha hm=>?_)
  ·have hE':(knownE r [isHandE r.hands h,1]=0)=False:=eq_false hE
   rw[if_neg hE]
   simp -implicitDefEqProofs (maxSteps:=9^9) (disch:=omega) only[go_sem,simprocAttr,hE',rosZ]
  ·rw[if_pos hO,hO]
   exact absurd (known_ws hO 1 (by simp)) (by decide)
 ·have e2:limE lim=0:=if_neg hl0
  rw[e2]
  have hl0':(lim<0)=False:=eq_false hl0
  simp -implicitDefEqProofs (maxSteps:=9^9) (disch:=omega) only[go_sem,simprocAttr,hl0']
  refine isHand_p r h _ _ ?_
  simp -implicitDefEqProofs (maxSteps:=9^9) (disch:=omega) only[go_sem,simprocAttr,hl0']
  refine ACalls.weaken (l':=[r.av,.list .no 1 ([isHandE r.hands h,0].map (.int .i64))]) ⟨⟨rfl,rfl,rfl,rfl,⟨rfl,.inl rfl,.inl rfl⟩,⟨rfl,.inl rfl,.inl rfl⟩,trivial⟩,⟨rfl,.inl rfl,.inl rfl⟩,trivial⟩ ?_
  refine known_c r hf [isHandE r.hands h,0] (by simp) (fun hE j=>?_) (fun hO hg a j ha hm=>?_)
  ·have hE':(knownE r [isHandE r.hands h,0]=0)=False:=eq_false hE
   rw[if_neg hE]
   simp -implicitDefEqProofs (maxSteps:=9^9) (disch:=omega) only[go_sem,simprocAttr,hE',rosZ]
  ·rw[if_pos hO,hO]
   have hh:=hand_in hO
   have hh4:=hg.hands
   have hsl:=hg.setl
   simp only[Ros.wav]
   simp -implicitDefEqProofs (maxSteps:=9^9) (disch:=omega) only[go_sem,simprocAttr]
   have hlen:=explR_len hg.toHead (ds:=entsL r)
   have hokL:=explR_okL hg
   have hm1:hget (σ++AObj.cells [.int .i64 r.hands,.int .i64 r.skill,.int .i64 r.mn,.int .i64 r.mx,.list .no 2 (r.sets.map Sg.av),.list .no 6 (r.ents.map Tn.av)]::(j++[AObj.cells (r.wcells (entsL r))])) a=some (.map (mapX (explR r (entsL r)))):=by
    have:=hgetA (l:=[AObj.cells (r.wcells (entsL r))]) hm;simpa using this
   have hx1:hget (σ++AObj.cells [.int .i64 r.hands,.int .i64 r.skill,.int .i64 r.mn,.int .i64 r.mx,.list .no 2 (r.sets.map Sg.av),.list .no 6 (r.ents.map Tn.av)]::(j++[AObj.cells (r.wcells (entsL r))])) (σ.length+(j.length+1))=some (.cells (r.wcells (entsL r))):=by rw[hget_at];simp
   have hr1:hget (σ++AObj.cells [.int .i64 r.hands,.int .i64 r.skill,.int .i64 r.mn,.int .i64 r.mx,.list .no 2 (r.sets.map Sg.av),.list .no 6 (r.ents.map Tn.av)]::(j++[AObj.cells (r.wcells (entsL r))])) σ.length=some (.cells [.int .i64 r.hands,.int .i64 r.skill,.int .i64 r.mn,.int .i64 r.mx,.list .no 2 (r.sets.map Sg.av),.list .no 6 (r.ents.map Tn.av)]):=by rw[hget_at0];rfl
   have hwc:[AV.int .i64 r.hands,.int .i64 r.skill,.int .i64 r.mn,.int .i64 r.mx,.list .no 2 (r.sets.map Sg.av),.list .no 6 (r.ents.map Tn.av),.list .no 1 ((entsL r).map ints1)]=r.wcells (entsL r):=rfl
   rw[hwc]
   obtain⟨J,hJ⟩:∃J,AObj.cells [.int .i64 r.hands,.int .i64 r.skill,.int .i64 r.mn,.int .i64 r.mx,.list .no 2 (r.sets.map Sg.av),.list .no 6 (r.ents.map Tn.av)]::(j++[AObj.cells (r.wcells (entsL r))])=J:=⟨_,rfl⟩
   rw[hJ] at hm1 hx1 hr1⊢
   clear hm hJ ha
   obtain⟨σ1,hσ1⟩:∃σ1,σ1=σ++J:=⟨_,rfl⟩
   rw[← hσ1] at hm1 hx1 hr1⊢
   have hm2:∀l,hget (σ1++l) a=some (.map (mapX (explR r (entsL r)))):=fun l=>hgetA hm1
   have hx2:∀l,hget (σ1++l) (σ.length+(j.length+1))=some (.cells (r.wcells (entsL r))):=fun l=>hgetA hx1
   have hr2:∀l,hget (σ1++l) σ.length=some (.cells [.int .i64 r.hands,.int .i64 r.skill,.int .i64 r.mn,.int .i64 r.mx,.list .no 2 (r.sets.map Sg.av),.list .no 6 (r.ents.map Tn.av)]):=fun l=>hgetA hr1
   refine ARun.forS (Tryz.envOK (S:=SBes) 70 Tryz.ord35 fs407 fs407_ok) r.sets.length (fun _=>True) (fun i=>[(12,.int .i64 ((r.sets.take i).foldl (setF h 60) 0)),(35,.int .i64 i)]) (fun _ j'=>σ1++j') [] (by kernel_rfl) (by simp) (by simp[upd,ins,subF,lookA]) trivial ?_ ?_
   ·intro i j' hi _ ih
    rw[take_foldl hi] at ih
    have hs60:=(hg.set _ (List.getElem_mem hi)).2
    have hse:∀m,setF h 60 m r.sets[i]=if r.sets[i].hand=h then(if m<r.sets[i].day then r.sets[i].day else m) else m:=fun m=>by
     unfold setF
     by_cases c:r.sets[i].hand=h
     ·rw[if_pos ⟨c,hs60.2⟩,if_pos c]
     ·rw[if_neg (fun g=>c g.1),if_neg c]
    rw[hse] at ih
    generalize (r.sets.take i).foldl (setF h 60) 0=m at *
    simp -implicitDefEqProofs (maxSteps:=9^9) (disch:=omega) only[go_sem,simprocAttr,Sg.av]
    refine⟨fun p1=>?_,fun p1=>?_⟩
    ·rw[if_pos p1] at ih
     exact(ih trivial (j'++[.cells [.int .i64 r.sets[i].hand,.int .i64 r.sets[i].day]])).castS (by simp) (by simp[upd,ins,subF,lookA])
    ·rw[if_neg p1] at ih
     exact(ih trivial (j'++[.cells [.int .i64 r.sets[i].hand,.int .i64 r.sets[i].day]])).castS (by simp) (by simp[upd,ins,subF,lookA])
   ·intro j' _
    rw[List.take_length]
    have hfr:r.sets.foldl (setF h 60) 0=fromL r.sets h 60:=rfl
    have hfi:=@fromL_in r.sets h 60 (by decide)
    rw[hfr]
    generalize fromL r.sets h 60=d0 at hfi⊢
    simp -implicitDefEqProofs (maxSteps:=9^9) (disch:=omega) only[go_sem,simprocAttr]
    refine ARun.loopJ (Tryz.envOK (S:=SBes) 70 Tryz.ord35 fs407 fs407_ok) (α:=Int) (fun d=>(60-d).toNat) (fun d τ=>(∃j2,τ=σ1++j2)∧(0≤d∧d≤60)∧∃n,(60-d).toNat≤n∧trustF r (explR r (entsL r)) h lim n d=trustF r (explR r (entsL r)) h lim 60 d0) (fun d=>[(12,.int .i64 d)]) d0 (by kernel_rfl) (by simp[upd,ins,subF,lookA]) ⟨⟨j',rfl⟩,hfi,60,by omega,rfl⟩ ?_
    rintro d τ ⟨⟨j2,rfl⟩,hd,n,hn,ht⟩ ih
    have hfin:∀j2,∃junk,σ1++j2=σ++junk:=fun j2=>⟨J++j2,by rw[hσ1,List.append_assoc]⟩
    by_cases hdl:d<60
    ·have hdl':(d<60)=True:=eq_true hdl
     obtain⟨n,rfl⟩:∃m,n=m+1:=⟨n-1,by omega⟩
     have hEi:=errsL_in hokL (h:=h) (d:=d+1) (by omega)
     have hwd:IntKind.i64.wrap (d+1)=d+1:=wrap64 (by omega) (by omega)
     have hwl:IntKind.i64.wrap (-lim)= -lim:=wrap64 (by omega) (by omega)
     have hts:trustF r (explR r (entsL r)) h lim (n+1) d=if(errsL r (explR r (entsL r)) h (d+1)).1< -lim∨lim<(errsL r (explR r (entsL r)) h (d+1)).2 then d else trustF r (explR r (entsL r)) h lim n (d+1):=by simp only[trustF,if_pos hdl]
     rw[hts] at ht
     simp -implicitDefEqProofs (maxSteps:=9^9) (disch:=omega) only[go_sem,simprocAttr,hdl',hx2,hm2,hr2,hwd,Ros.wcells]
     refine errs_p r (entsL r) hg.toHead (explR r (entsL r)) hokL (by omega) h (d+1) (by omega) (by omega) (a:=a) (hm2 _) ?_
     generalize errsL r (explR r (entsL r)) h (d+1)=E at hEi ht⊢
     simp -implicitDefEqProofs (maxSteps:=9^9) (disch:=omega) only[go_sem,simprocAttr,hx2,hm2,hr2,hwd,hwl,Ros.wcells]
     have hg1:∀v l,v=trustF r (explR r (entsL r)) h lim 60 d0→Gives σ (AV.tup [AV.int IntKind.i64 (trustF r (explR r (entsL r)) h lim 60 d0),AV.int IntKind.i64 0]) (AV.tup [AV.int IntKind.i64 v,AV.int IntKind.i64 0]) (σ1++l):=fun v l hv=>⟨hfin l,by rw[hv];simp[wk,wkL,wk1,wk0]⟩
     refine⟨fun p1=>hg1 _ _ ?_,fun p1=>⟨fun p2=>hg1 _ _ ?_,fun p2=>?_⟩⟩
     ·rw[if_pos (.inl (by omega))] at ht;exact ht
     ·rw[if_pos (.inr p2)] at ht;exact ht
     ·rw[if_neg (by omega)] at ht
      exact(ih (d+1) _ (by omega) ⟨⟨j2++[AObj.cells [AV.int IntKind.i64 E.fst,AV.int IntKind.i64 E.snd]],rfl⟩,by omega,n,by omega,ht⟩).castS rfl (by simp[upd,ins,subF,lookA])
    ·have hdl':(d<60)=False:=eq_false hdl
     have hdt:trustF r (explR r (entsL r)) h lim n d=d:=by
      cases n with
      | zero=>rfl
      | succ n=>simp only[trustF,if_neg hdl]
     rw[hdt] at ht
     rw[← ht]
     simp -implicitDefEqProofs (maxSteps:=9^9) (disch:=omega) only[go_sem,simprocAttr,hdl']
     exact⟨hfin j2,by simp[wk,wkL,wk1,wk0]⟩
end Go.Proofs
namespace Go.Proofs
open Go Go.Mu Go.Ins
variable {S:MC Tryz.prog}
theorem tg_at{Z:List Int}{i:Nat}:tg Z (i:Int)=at_ Z i:=by unfold tg at_;rw[Int.toNat_natCast];rfl
def leI(a b:Int):Prop:=a≤b
instance (a b:Int):Decidable (leI a b):=by unfold leI;infer_instance
theorem leI_trans(a b c:Int)(h1:leI a b)(h2:leI b c):leI a c:=Int.le_trans h1 h2
theorem leI_total(a b:Int):leI a b∨leI b a:=Int.le_total a b
theorem leI_anti(a b:Int)(h1:leI a b)(h2:leI b a):a=b:=Int.le_antisymm h1 h2
theorem insI_c(zs:List Int)(hz:0<zs.length)(hn:zs.length≤1000000){σ:List AObj}{r:Nat}(hg:hget σ r=some (.vec 1 (zs.map (.int .i64)))){Q:AV→List AObj→Prop}(h:Q (.tup []) (hset σ r (.vec 1 ((isort leI zs).map (.int .i64))))) :
  ACalls S 182 [.vec r zs.length,.int .i64 0,.int .i64 zs.length] σ Q:=by
 refine AcE (Tryz.envOK (S:=S) 49 Tryz.ordIns fs302 fs302_ok) Tryz.kp182 Tryz.func182 rfl ?_
 simp -implicitDefEqProofs (maxSteps:=9^9) (disch:=omega) only[go_sem,simprocAttr]
 refine ARun.forJ (Tryz.envOK (S:=S) 49 Tryz.ordIns fs302 fs302_ok) (zs.length-1) (fun i τ=>∃Z:List Int,Z.Perm zs∧Upto leI Z (i+1)∧τ=hset σ r (.vec 1 (Z.map (.int .i64)))) (fun i=>[(6,.int .i64 ((i:Int)+1))]) (by kernel_rfl) (by simp[upd,ins,subF,lookA]) ⟨zs,.refl _,Upto.one,(hset_same hg).symm⟩ ?_ ?_
 ·rintro i τ hi ⟨Z,hp,hu,rfl⟩ ih
  have hwi:IntKind.i64.wrap ((i:Int)+1+1)=((i+1:Nat):Int)+1:=by rw[wrap64 (by omega) (by omega)];rfl
  simp -implicitDefEqProofs (maxSteps:=9^9) (disch:=omega) only[go_sem,simprocAttr]
  refine ARun.loopJ (Tryz.envOK (S:=S) 49 Tryz.ordIns fs302 fs302_ok) (α:=Nat×List Int) (fun a=>a.1) (fun a τ=>a.1≤i+1∧a.2.Perm zs∧Sinking leI a.2 (i+1) a.1∧τ=hset σ r (.vec 1 (a.2.map (.int .i64)))) (fun a=>[(7,.int .i64 (a.1:Int))]) (i+1,Z) (by kernel_rfl) (by simp[upd,ins,subF,lookA]) ⟨Nat.le_refl _,hp,hu.sinking,rfl⟩ ?_
  clear hu hp
  rintro⟨j,Y⟩ τ ⟨hj,hp,hS,rfl⟩ ih2
  simp only at hj hp hS ih2⊢
  have hyl:Y.length=zs.length:=hp.length_eq
  have hgs:∀W,hget (hset σ r (.vec 1 W)) r=some (.vec 1 W):=fun W=>hget_set hg _
  cases j with
  | zero=>
   have hU:=hS.done leI_trans (.inl rfl)
   simp -implicitDefEqProofs (maxSteps:=9^9) (disch:=omega) only[go_sem,simprocAttr,hwi]
   exact(ih _ ⟨Y,hp,hU,rfl⟩).castS rfl (by simp[upd,ins,subF,lookA])
  | succ k=>
   have hk1:k+1<Y.length:=by omega
   have e1:tg Y ((k:Int)+1)=at_ Y (k+1):=tg_at (i:=k+1)
   have e0:tg Y ((k:Int)+1-1)=at_ Y k:=by rw[show((k:Int)+1-1)=(k:Int) by omega];exact tg_at
   by_cases hlt:at_ Y (k+1)<at_ Y k
   ·have hlt':(at_ Y (k+1)<at_ Y k)=True:=eq_true hlt
    have hS2:=hS.step (by omega) hj (Int.le_of_lt hlt)
    have hp2:=(swp_perm hk1).trans hp
    have t1:((k:Int)+1).toNat=k+1:=by omega
    have t0:((k:Int)+1-1).toNat=k:=by omega
    have m0s:∀v,((Y.map (AV.int .i64)).set ((k:Int)+1).toNat v)[((k:Int)+1-1).toNat]? = some (.int .i64 (at_ Y k)):=fun v=>by rw[t1,t0,List.getElem?_set_ne (by omega),at_eq (by omega:k<Y.length)];simp[show k<Y.length by omega]
    have hfin:((Y.map (AV.int .i64)).set ((k:Int)+1).toNat (.int .i64 (at_ Y k))).set ((k:Int)+1-1).toNat (.int .i64 (at_ Y (k+1)))=(swp Y k).map (.int .i64):=by unfold swp;rw[t1,t0,List.map_set,List.map_set]
    simp -implicitDefEqProofs (maxSteps:=9^9) (disch:=omega) only[go_sem,simprocAttr,hgs,e1,e0,hlt',m0s,List.length_set]
    exact(ih2 (k,swp Y k) _ (Nat.lt_succ_self k) ⟨by omega,hp2,hS2,by rw[hfin]⟩).castS rfl (by simp[upd,ins,subF,lookA])
   ·have hlt':(at_ Y (k+1)<at_ Y k)=False:=eq_false hlt
    have hU:=hS.done leI_trans (.inr ⟨k,rfl,by unfold leI;omega⟩)
    simp -implicitDefEqProofs (maxSteps:=9^9) (disch:=omega) only[go_sem,simprocAttr,hgs,e1,e0,hlt',hwi]
    exact(ih _ ⟨Y,hp,hU,rfl⟩).castS rfl (by simp[upd,ins,subF,lookA])
 ·rintro τ ⟨Z,hp,hu,rfl⟩
  have hzl:Z.length=zs.length:=hp.length_eq
  rw[show zs.length-1+1=Z.length by omega] at hu
  have he:=isort_eq leI_trans leI_total leI_anti hu.pairwise hp
  rw[← he] at h
  simp -implicitDefEqProofs (maxSteps:=9^9) (disch:=omega) only[go_sem,simprocAttr]
  exact h
theorem pdqI_c(zs:List Int)(hz:0<zs.length)(hn:zs.length≤12){lim:Int}{σ:List AObj}{r:Nat}(hg:hget σ r=some (.vec 1 (zs.map (.int .i64)))){Q:AV→List AObj→Prop}(h:Q (.tup []) (hset σ r (.vec 1 ((isort leI zs).map (.int .i64))))) :
  ACalls S 141 [.vec r zs.length,.int .i64 0,.int .i64 zs.length,.int .i64 lim] σ Q:=by
 refine AcE (Tryz.envOK (S:=S) 134 Tryz.ord141 fs302 fs302_ok) Tryz.kp141 Tryz.func141 rfl ?_
 simp -implicitDefEqProofs (maxSteps:=9^9) (disch:=omega) only[go_sem,simprocAttr]
 refine ARun.once (Tryz.envOK (S:=S) 134 Tryz.ord141 fs302 fs302_ok) (by kernel_rfl) ?_
 have h12:((zs.length:Int)≤12)=True:=eq_true (by omega)
 simp -implicitDefEqProofs (maxSteps:=9^9) (disch:=omega) only[go_sem,simprocAttr,h12]
 refine insI_c zs hz (by omega) hg ?_
 simp -implicitDefEqProofs (maxSteps:=9^9) (disch:=omega) only[go_sem,simprocAttr]
 exact h
theorem sortI_c(zs:List Int)(hz:0<zs.length)(hn:zs.length≤12){σ:List AObj}{r:Nat}(hg:hget σ r=some (.vec 1 (zs.map (.int .i64)))){Q:AV→List AObj→Prop}(h:Q (.tup []) (hset σ r (.vec 1 ((isort leI zs).map (.int .i64))))) :
  ACalls S 88 [.vec r zs.length] σ Q:=by
 refine AcE (Tryz.envOK (S:=S) 11 (fun _=>([],[])) fs302 fs302_ok) Tryz.kp88 Tryz.func88 rfl ?_
 have hw:IntKind.u64.wrap (zs.length:Int)=zs.length:=by unfold IntKind.wrap;simp[IntKind.signed,IntKind.bits];omega
 simp -implicitDefEqProofs (maxSteps:=9^9) (disch:=omega) only[go_sem,simprocAttr]
 rw[hw]
 refine len_p zs.length hz (by omega) _ _ ?_
 simp -implicitDefEqProofs (maxSteps:=9^9) (disch:=omega) only[go_sem,simprocAttr]
 refine pdqI_c zs hz hn hg ?_
 simp -implicitDefEqProofs (maxSteps:=9^9) (disch:=omega) only[go_sem,simprocAttr]
 exact h
theorem compactS_c(zs:List Int)(hn:zs.length≤1000000)(hs:∀i,i+1<zs.length→at_ zs (i+1)≠at_ zs i){σ:List AObj}{r:Nat}(hg:hget σ r=some (.vec 1 (zs.map (.int .i64)))){Q:AV→List AObj→Prop}(h:Q (.vec r zs.length) σ) :
  ACalls S 89 [.vec r zs.length] σ Q:=by
 refine AcE (Tryz.envOK (S:=S) 61 Tryz.ord89 fs405 fs405_ok) Tryz.kp89 Tryz.func89 rfl ?_
 by_cases h2:zs.length<2
 ·have h2':((zs.length:Int)<2)=True:=eq_true (by omega)
  simp -implicitDefEqProofs (maxSteps:=9^9) (disch:=omega) only[go_sem,simprocAttr,h2']
  exact h
 ·have h2':((zs.length:Int)<2)=False:=eq_false (by omega)
  simp -implicitDefEqProofs (maxSteps:=9^9) (disch:=omega) only[go_sem,simprocAttr,h2']
  refine ARun.forJ (Tryz.envOK (S:=S) 61 Tryz.ord89 fs405 fs405_ok) (zs.length-1) (fun _ τ=>τ=σ) (fun i=>[(3,.int .i64 ((i:Int)+1))]) (by kernel_rfl) (by simp[upd,ins,subF,lookA]) rfl ?_ ?_
  ·rintro i τ hi rfl ih
   have e1:tg zs ((i:Int)+1)=at_ zs (i+1):=tg_at (i:=i+1)
   have e0:tg zs ((i:Int)+1-1)=at_ zs i:=by rw[show((i:Int)+1-1)=(i:Int) by omega];exact tg_at
   have hne:(at_ zs (i+1)=at_ zs i)=False:=eq_false (hs i (by omega))
   simp -implicitDefEqProofs (maxSteps:=9^9) (disch:=omega) only[go_sem,simprocAttr,hg,e1,e0,hne]
   exact(ih _ rfl).castS rfl (by simp[upd,ins,subF,lookA])
  ·rintro τ rfl
   simp -implicitDefEqProofs (maxSteps:=9^9) (disch:=omega) only[go_sem,simprocAttr]
   exact h
end Go.Proofs
namespace Go.Proofs
open Go Go.Mu Go.Ins
def ratesOf(L:List (List Int))(h:Int):List Int:=(L.map fun x=>tg x h).filter fun n=>decide (n≠0)
def ratesE(r:Ros)(h:Int):Int:=if knownE r [isHandE r.hands h]≠0 then knownE r [isHandE r.hands h] else if ratesOf (explR r (entsL r)) h=[] then 11 else 0
def ratesL(r:Ros)(h:Int):List Int:=if ratesE r h=0 then isort leI (ratesOf (explR r (entsL r)) h) else[]
theorem ratesOf_snoc{L:List (List Int)}{x:List Int}{h:Int}:ratesOf (L++[x]) h=ratesOf L h++if tg x h=0 then[] else[tg x h]:=by
 unfold ratesOf
 rw[List.map_append,List.filter_append]
 by_cases hz:tg x h=0
 ·simp[hz]
 ·simp[hz]
theorem ratesOf_len{L:List (List Int)}{h:Int}:(ratesOf L h).length≤L.length:=Nat.le_trans (List.length_filter_le _ _) (by simp)
theorem ratesOf_perm{L M:List (List Int)}{h:Int}(hp:L.Perm M):(ratesOf L h).Perm (ratesOf M h):=(hp.map _).filter _
theorem strict_of{zs:List Int}(hp:zs.Pairwise leI)(hn:zs.Nodup):∀i,i+1<zs.length→at_ zs (i+1)≠at_ zs i:=by
 intro i hi e
 rw[at_eq hi,at_eq (by omega:i<zs.length)] at e
 have:=(List.pairwise_iff_getElem.1 hn) i (i+1) (by omega) hi (by omega)
 exact this e.symm
theorem ratesS_p(r:Ros)(hf:r.Fit)(h:Int)(hE:ratesE r h=0)(h12:(ratesOf (explR r (entsL r)) h).length≤12)(hnd:(ratesOf (explR r (entsL r)) h).Nodup):PureV SBes 25 [r.av,.int .i64 h] (.tup [ints1 (ratesL r h),.int .i64 0]):=by
 intro σ Q hq
 rw[show ratesL r h=isort leI (ratesOf (explR r (entsL r)) h) from if_pos hE] at hq
 have hk:knownE r [isHandE r.hands h]=0:=by
  unfold ratesE at hE
  exact Classical.byContradiction fun hc=>by rw[if_pos hc] at hE;exact hc hE
 have hne:ratesOf (explR r (entsL r)) h≠[]:=by
  unfold ratesE at hE
  rw[if_neg (fun hc=>hc hk)] at hE
  intro e
  rw[if_pos e] at hE;cases hE
 clear hE
 refine ACalls.clean ?_
 refine ACalls.frozeT ?_
 refine AcE (Tryz.envOK (S:=SBes) 47 Tryz.ord25 fs407 fs407_ok) Tryz.kp25 Tryz.func25 rfl ?_
 simp only[Ros.av]
 simp -implicitDefEqProofs (maxSteps:=9^9) (disch:=omega) only[go_sem,simprocAttr]
 refine isHand_p r h _ _ ?_
 simp -implicitDefEqProofs (maxSteps:=9^9) (disch:=omega) only[go_sem,simprocAttr]
 refine ACalls.weaken (l':=[r.av,.list .no 1 ([isHandE r.hands h].map (.int .i64))]) ⟨⟨rfl,rfl,rfl,rfl,⟨rfl,.inl rfl,.inl rfl⟩,⟨rfl,.inl rfl,.inl rfl⟩,trivial⟩,⟨rfl,.inl rfl,.inl rfl⟩,trivial⟩ ?_
 refine known_c r hf [isHandE r.hands h] (by simp) (fun hE j=>absurd hk hE) (fun hO hg a j ha hm=>?_)
 have hh:=hand_in hO
 have hh4:=hg.hands
 have hlen:=explR_len hg.toHead (ds:=entsL r)
 have hokL:=explR_okL hg
 simp only[Ros.wav]
 have hm1:hget (σ++AObj.cells [.int .i64 r.hands,.int .i64 r.skill,.int .i64 r.mn,.int .i64 r.mx,.list .no 2 (r.sets.map Sg.av),.list .no 6 (r.ents.map Tn.av)]::(j++[AObj.cells [AV.int .i64 r.hands,.int .i64 r.skill,.int .i64 r.mn,.int .i64 r.mx,.list .no 2 (r.sets.map Sg.av),.list .no 6 (r.ents.map Tn.av),.list .no 1 ((entsL r).map ints1)]])) a=some (.map (mapX (explR r (entsL r)))):=by
  have:=hgetA (l:=[AObj.cells (r.wcells (entsL r))]) hm;simpa[Ros.wcells] using this
 generalize explR r (entsL r)=L at *
 have hml:(mapX L).length=L.length:=by simp[mapX]
 simp -implicitDefEqProofs (maxSteps:=9^9) (disch:=omega) only[go_sem,simprocAttr,hm1,hml]
 obtain⟨J,hJ⟩:∃J,AObj.cells [.int .i64 r.hands,.int .i64 r.skill,.int .i64 r.mn,.int .i64 r.mx,.list .no 2 (r.sets.map Sg.av),.list .no 6 (r.ents.map Tn.av)]::(j++[AObj.cells [AV.int .i64 r.hands,.int .i64 r.skill,.int .i64 r.mn,.int .i64 r.mx,.list .no 2 (r.sets.map Sg.av),.list .no 6 (r.ents.map Tn.av),.list .no 1 ((entsL r).map ints1)]])=J:=⟨_,rfl⟩
 obtain⟨σ1,hσ1⟩:∃σ1,σ1=σ++J:=⟨_,rfl⟩
 have e1:∀it,σ++AObj.cells [.int .i64 r.hands,.int .i64 r.skill,.int .i64 r.mn,.int .i64 r.mx,.list .no 2 (r.sets.map Sg.av),.list .no 6 (r.ents.map Tn.av)]::(j++[AObj.cells [AV.int .i64 r.hands,.int .i64 r.skill,.int .i64 r.mn,.int .i64 r.mx,.list .no 2 (r.sets.map Sg.av),.list .no 6 (r.ents.map Tn.av),.list .no 1 ((entsL r).map ints1)],it])=σ1++[it]:=fun it=>by rw[hσ1,← hJ];simp
 have e2:σ.length+(j.length+1+1)=σ1.length:=by rw[hσ1,← hJ];simp
 rw[e1,e2]
 rw[hJ,← hσ1] at hm1
 have hσf:∀l,∃junk,σ1++l=σ++junk:=fun l=>⟨J++l,by rw[hσ1,List.append_assoc]⟩
 have hσl:σ.length≤σ1.length:=by rw[hσ1];simp
 clear e1 e2 hJ hm ha hσ1
 have hm2:∀l,hget (σ1++l) a=some (.map (mapX L)):=fun l=>hgetA hm1
 refine ARun.ghostV 9 1 (sz0:=0) rfl (by simp[lookA]) ?_
 simp only[ins,↓reduceIte,List.append_assoc,List.cons_append,List.nil_append,List.length_append,List.length_cons,List.length_nil,Nat.zero_add,Nat.reduceEqDiff,Nat.reduceAdd]
 refine ARun.loopJ (Tryz.envOK (S:=SBes) 47 Tryz.ord25 fs407 fs407_ok) (α:=List Nat) (fun a=>L.length-a.length) (fun seen τ=>(∃j,τ=σ1++(.iter (some a) L.length seen:: .vec 1 ((ratesOf (seen.map fun i=>L.getD i []) h).map (.int .i64))::j))∧seen.Nodup∧∀i∈seen,i<L.length) (fun seen=>[(9,.vec (σ1.length+1) (ratesOf (seen.map fun i=>L.getD i []) h).length)]) [] (by kernel_rfl) (by simp[upd,ins,subF,lookA,ratesOf]) ⟨⟨[],by simp[ratesOf]⟩,by simp,by simp⟩ ?_
 rintro seen τ ⟨⟨j,rfl⟩,hnd',hlt⟩ ih
 have hsl:=seen_len hnd' hlt
 have hrl:(ratesOf (seen.map fun i=>L.getD i []) h).length≤seen.length:=by
  have:=ratesOf_len (L:=seen.map fun i=>L.getD i []) (h:=h);simpa using this
 simp -implicitDefEqProofs (maxSteps:=9^9) (disch:=omega) only[go_sem,simprocAttr]
 refine nextA_intro (q:=a) (c:=L.length) (seen:=seen) (es:=mapX L) (by rw[hget_at0];rfl) (hm2 _) hml.symm (fun i2 k v hi2 hns=>?_) (fun hall=>?_)
 ·obtain⟨x,hx,hkv⟩:∃x,L[i2]? = some x∧(rtv x,AV.bool true)=(k,v):=by simpa[mapX] using hi2
  simp only[Prod.mk.injEq] at hkv
  obtain⟨rfl,rfl⟩:=hkv
  have hil:=(List.getElem?_eq_some_iff.1 hx).1
  have hxm:x∈L:=List.mem_of_getElem? hx
  have hok:=hokL x hxm
  have hgd:L.getD i2 []=x:=by rw[List.getD_eq_getElem?_getD,hx];rfl
  have hgl:(seen++[i2]).getLast? = some i2:=by simp
  have hnd2:(seen++[i2]).Nodup:=by
   rw[List.nodup_append]
   exact⟨hnd',by simp,fun a ha b hb e=>by simp at hb;subst hb;exact hns (e▸ha)⟩
  have hlt2:∀i∈seen++[i2],i<L.length:=fun i hi=>by
   rcases List.mem_append.1 hi with hi | hi
   ·exact hlt i hi
   ·simp at hi;omega
  have hsl2:=seen_len hnd2 hlt2
  rw[List.length_append,List.length_singleton] at hsl2
  have ih2:=ih (seen++[i2])
  have hmm:(seen++[i2]).map (fun i=>L.getD i [])=seen.map (fun i=>L.getD i [])++[x]:=by rw[List.map_append];simp only[List.map_cons,List.map_nil,hgd]
  rw[hmm,ratesOf_snoc] at ih2
  clear hmm
  generalize ratesOf (seen.map fun i=>L.getD i []) h=R at hrl ih2⊢
  have hxl:=hok.len
  obtain⟨b,c,e,f,hxe⟩:=len4 hok.len
  have hi3:(mapX L)[i2]? = some (.agg [.int .i64 b,.int .i64 c,.int .i64 e,.int .i64 f],.bool true):=by rw[hi2,hxe];rfl
  have hxx:[AV.int .i64 b,.int .i64 c,.int .i64 e,.int .i64 f]=x.map (AV.int .i64):=by rw[hxe];rfl
  rw[hxx] at hi3
  have hput:putAt 0 (x.map (AV.int .i64)) [.int .i64 0,.int .i64 0,.int .i64 0,.int .i64 0]=x.map (AV.int .i64):=by rw[hxe];rfl
  by_cases hz:tg x h=0
  ·rw[if_pos hz,List.append_nil] at ih2
   have hz':(tg x h=0)=True:=eq_true hz
   simp -implicitDefEqProofs (maxSteps:=9^9) (disch:=omega) only[go_sem,simprocAttr,hm2,hgl,hi3,hml,hput,hz']
   exact(ih2 _ (by rw[List.length_append,List.length_singleton];omega) ⟨⟨j++[.cells (x.map (.int .i64))],rfl⟩,hnd2,hlt2⟩).castS rfl (by simp[upd,ins,subF,lookA])
  ·rw[if_neg hz] at ih2
   have hz':(tg x h=0)=False:=eq_false hz
   simp -implicitDefEqProofs (maxSteps:=9^9) (disch:=omega) only[go_sem,simprocAttr,hm2,hgl,hi3,hml,hput,hz']
   exact(ih2 _ (by rw[List.length_append,List.length_singleton];omega) ⟨⟨j++[.cells (x.map (.int .i64))],rfl⟩,hnd2,hlt2⟩).castS (by simp) (by simp[upd,ins,subF,lookA])
 ·have hall':∀i,i<L.length→i∈seen:=fun i hi=>hall i (by rw[hml];exact hi)
  have hps:=ratesOf_perm (h:=h) (seen_perm ([]:List Int) hnd' hlt hall')
  have hso:isort leI (ratesOf (seen.map fun i=>L.getD i []) h)=isort leI (ratesOf L h):=
   isort_eq leI_trans leI_total leI_anti (isort_pair leI_trans leI_total _) ((isort_perm _).trans hps)
  have hnd3:(isort leI (ratesOf L h)).Nodup:=(isort_perm _).nodup_iff.2 hnd
  have hst:=strict_of (isort_pair leI_trans leI_total (ratesOf L h)) hnd3
  have hil2:=(isort_perm (le:=leI) (ratesOf L h)).length_eq
  have hl2:=hps.length_eq
  have hpos:0<(ratesOf L h).length:=List.length_pos_iff.2 hne
  rw[← hso] at hst hil2 hq
  clear hnd3 hnd hne ih hps hso
  generalize ratesOf (seen.map fun i=>L.getD i []) h=R at *
  have hn0:((R.length:Int)=0)=False:=eq_false (by omega)
  simp -implicitDefEqProofs (maxSteps:=9^9) (disch:=omega) only[go_sem,simprocAttr,hn0]
  refine sortI_c R (by omega) (by omega) (by rw[hget_at];rfl) ?_
  simp -implicitDefEqProofs (maxSteps:=9^9) (disch:=omega) only[go_sem,simprocAttr]
  have hRl:R.length=(isort leI R).length:=by omega
  rw[hRl]
  refine compactS_c (isort leI R) (by omega) hst (by rw[hget_at];rfl) ?_
  simp -implicitDefEqProofs (maxSteps:=9^9) (disch:=omega) only[go_sem,simprocAttr]
  refine⟨_,0,σ1.length+1,1,(isort leI R).map (.int .i64),rfl,by simp,by rw[hget_at];rfl,?_⟩
  rw[hset_at]
  refine⟨_,_,(hσf _).choose_spec,Weak.refl _,?_,hq⟩
  exact(Plain.tup (by simp;exact⟨Plain.ints,.int⟩)) _
/-! The chapter's examples: what the kernel reckons. -/
def foundK(r:Ros)(ds:List (List Int))(many:Nat):List (List Int):=((List.range (2^r.hands.toNat)).filter fun s=>popF s==many).flatMap (htruthsR r ds)
def explK(r:Ros)(ds:List (List Int)):Nat→Nat→List (List Int)
 | 0,_=>[]
 | n+1,k=>if foundK r ds k=[] then explK r ds n (k+1) else(foundK r ds k).foldl addX []
theorem foundK_eq{r:Ros}(hr:r.hands.toNat≤4){ds:List (List Int)}{many:Nat}:foundR r ds many=foundK r ds many:=by
 unfold foundR foundS foundK
 congr 1
 refine List.filter_congr fun s hs=>?_
 have hp:(2:Nat)^r.hands.toNat≤2^4:=Nat.pow_le_pow_right (by omega) hr
 rw[popF_eq s (by have:=List.mem_range.1 hs;omega)]
theorem explK_eq{r:Ros}(hr:r.hands.toNat≤4){ds:List (List Int)}:∀n k,explF r ds n k=explK r ds n k
 | 0,k=>rfl
 | n+1,k=>by simp only[explF,explK,foundK_eq hr,explK_eq hr n (k+1)]
theorem chkE_one{x:Tn}{h:Int}(h1:0≤x.day∧x.day≤60)(h2: -1≤x.hand∧x.hand≤h-1)(h3:1≤x.due∧x.due≤100000)(hk:ck x.ear=0)(ht:x.ear.tones.length=1)(hn:truthsL x.ear≠[]) :
  chkE x h=((firstsL ((truthsL x.ear).map fun t=>tg t 0)).map (· - x.due),0):=by
 have ha:askL x.ear (oneE x.ear 0)=(truthsL x.ear,0):=by
  have h0:oneE x.ear 0=0:=by unfold oneE;rw[if_pos (by omega)]
  unfold askL knownL
  rw[if_neg (by simp[hk]),if_neg (by simp[h0]),if_neg (by simp[hk]),if_neg hn]
 unfold chkE valuesL
 rw[if_neg (fun c=>c h1),if_neg (fun c=>c h2),if_neg (fun c=>c h3),if_neg (fun c=>c hk),if_neg (by omega),ha]
 simp only[if_true]
 rw[sortL_asc (one_asc (okE_of_ck hk) ht).1]
def tnd(day by_ due lo hi:Int):Tn:=⟨day,by_,due,⟨0,[⟨lo,hi⟩],[]⟩⟩
def shopR:Ros:=⟨2,3, -2,2,[],[tnd 5 0 44000 44008 44012,tnd 4 (-1) 44000 43996 43997,tnd 4 (-1) 44000 44003 44003]⟩
def loneR:Ros:=⟨2,3, -2,2,[],[tnd 5 (-1) 44000 44008 44012]⟩
theorem c1:chkE (tnd 5 0 44000 44008 44012) 2=([8,9,10,11,12],0):=by
 rw[chkE_one (by decide) (by decide) (by decide) (by kernel_rfl) (by kernel_rfl) (by decide +kernel)]
 decide +kernel
theorem c2:chkE (tnd 4 (-1) 44000 43996 43997) 2=([-4, -3],0):=by
 rw[chkE_one (by decide) (by decide) (by decide) (by kernel_rfl) (by kernel_rfl) (by decide +kernel)]
 decide +kernel
theorem c3:chkE (tnd 4 (-1) 44000 44003 44003) 2=([3],0):=by
 rw[chkE_one (by decide) (by decide) (by decide) (by kernel_rfl) (by kernel_rfl) (by decide +kernel)]
 decide +kernel
theorem c4:chkE (tnd 5 (-1) 44000 44008 44012) 2=([8,9,10,11,12],0):=by
 rw[chkE_one (by decide) (by decide) (by decide) (by kernel_rfl) (by kernel_rfl) (by decide +kernel)]
 decide +kernel
theorem shop_ds:entsL shopR=[[8,9,10,11,12],[-4, -3],[3]]:=by
 simp only[entsL,shopR,List.map_cons,List.map_nil,c1,c2,c3]
theorem shop_e:entsE shopR=0:=by
 simp only[entsE,shopR,List.map_cons,List.map_nil,c1,c2,c3];rfl
theorem lone_ds:entsL loneR=[[8,9,10,11,12]]:=by
 simp only[entsL,loneR,List.map_cons,List.map_nil,c4]
theorem lone_e:entsE loneR=0:=by
 simp only[entsE,loneR,List.map_cons,List.map_nil,c4];rfl
theorem shop_x:explR shopR (entsL shopR)=[[1,0,0,0],[2,0,0,0]]:=by
 rw[shop_ds];unfold explR;rw[explK_eq (by decide)];decide +kernel
theorem lone_x:explR loneR (entsL loneR)=[[1,0,0,0],[2,0,0,0],[0,1,0,0],[0,2,0,0]]:=by
 rw[lone_ds];unfold explR;rw[explK_eq (by decide)];decide +kernel
theorem shop_ro:rosE shopR=0:=by
 unfold rosE;rw[if_neg (by decide +kernel)];exact shop_e
theorem lone_ro:rosE loneR=0:=by
 unfold rosE;rw[if_neg (by decide +kernel)];exact lone_e
theorem shop_k{ws:List Int}(h:firstNZ ws=0):knownE shopR ws=0:=by
 unfold knownE;rw[if_neg (fun c=>c shop_ro),if_neg (fun c=>c h),shop_x];rfl
theorem lone_k{ws:List Int}(h:firstNZ ws=0):knownE loneR ws=0:=by
 unfold knownE;rw[if_neg (fun c=>c lone_ro),if_neg (fun c=>c h),lone_x];rfl
theorem lone_few:fewL loneR=[[0],[1]]:=by
 unfold fewL;rw[if_pos (lone_k rfl),lone_x];decide +kernel
theorem shop_few:fewL shopR=[[0]]:=by
 unfold fewL;rw[if_pos (shop_k rfl),shop_x];decide +kernel
theorem shop_conv:convL shopR=[1,2]:=by
 unfold convL;rw[if_pos (shop_k rfl),shop_few];decide +kernel
theorem shop_hand:isHandE 2 0=0:=by decide +kernel
theorem shop_rof:ratesOf (explR shopR (entsL shopR)) 0=[1,2]:=by rw[shop_x];decide +kernel
theorem shop_rE:ratesE shopR 0=0:=by
 unfold ratesE;rw[if_neg (fun c=>c (shop_k (by rw[show shopR.hands=2 from rfl,shop_hand];rfl))),shop_rof];rfl
theorem shop_rL:ratesL shopR 0=[1,2]:=by
 unfold ratesL;rw[if_pos shop_rE,shop_rof];decide +kernel
theorem shop_tE:testE shopR 0 10 44000=0:=by
 unfold testE;exact shop_k (by decide +kernel)
theorem shop_tL:testL shopR 0 10 44000=(44007,44023):=by
 unfold testL;rw[if_pos shop_tE,shop_x];decide +kernel
theorem shop_uE:trustE shopR 0 5=0:=by
 unfold trustE;exact shop_k (by decide +kernel)
theorem shop_uL:trustL shopR 0 5=2:=by
 unfold trustL;rw[if_pos shop_uE,shop_x];decide +kernel
end Go.Proofs
