/- Texts of a proof: lemmas. -/
import Derived.Test.YtgbdndlmdklefaaGreatEK39
import Derived.Test.YtgbdndlmdklefaaGreatEK35
import Derived.Test.YtgbdndlmdklefaaGreatEK28
import Derived.Test.YtgbdndlmdklefaaGreatEK34
import Derived.Test.YtgbdndlmdklefaaGreatEK37
set_option linter.unusedSimpArgs false
set_option linter.unusedVariables false
set_option maxRecDepth 100000
set_option maxHeartbeats 40000000
namespace Go.Proofs
open Go Go.Mu Go.Ins
variable {S:MC Tryz.prog}
theorem rlists_p(n:Nat)(hn:n≤4):∀(m a:Nat),m≤4→a≤5→PureV S 154 [.int .i64 a,.int .i64 n,.int .i64 m] (htss (hcomb n m a)):=by
 intro m
 induction m with
 | zero=>
  intro a hm ha
  refine PvE (Tryz.envOK (S:=S) 43 (fun _=>([],[])) fs0 fs0_ok) (htss_plain _) Tryz.kp154 Tryz.func154 rfl ?_
  intro σ
  simp -implicitDefEqProofs (maxSteps:=9^9) (disch:=omega) only[go_sem,simprocAttr,htss,hcomb,ints1,List.map_nil]
 | succ m ih=>
  intro a hm ha
  refine PvE (Tryz.envOK (S:=S) 43 (fun _=>([],[])) fs0 fs0_ok) (htss_plain _) Tryz.kp154 Tryz.func154 rfl ?_
  intro σ
  rw[hcomb_succ]
  have hbd:∀i,((List.range i).flatMap (hcombK n m a)).length≤i*625:=fun i=>fmLen (fun k=>by unfold hcombK;rw[List.length_map];exact hcomb_len4 hn (by omega)) i
  simp -implicitDefEqProofs (maxSteps:=9^9) (disch:=omega) only[go_sem,simprocAttr]
  refine ARun.ghost 7 1 (sz0:=0) rfl (by simp[lookA]) ?_
  simp only[ins,↓reduceIte,List.append_assoc,List.cons_append,List.nil_append,List.length_append,List.length_cons,List.length_nil,Nat.zero_add,Nat.reduceEqDiff,Nat.reduceAdd]
  refine ARun.forS (Tryz.envOK (S:=S) 43 (fun _=>([],[])) fs0 fs0_ok) (n-a) (fun _=>True) (fun i=>[(7,.list (.own σ.length) 1 (((List.range i).flatMap (hcombK n m a)).map ints1)),(8,.int .i64 ((a:Int)+i))]) (fun i j=>σ++(.tail ((List.range i).flatMap (hcombK n m a)).length 1::j)) [] (by kernel_rfl) (by simp) (by simp[upd,ins,subF,lookA]) trivial ?_ ?_
  ·intro i j hi _ ih2
   have hb:=hbd i
   have hC:(hcomb n m (a+i+1)).length≤625:=hcomb_len4 hn (by omega)
   have ih':=ih (a+i+1) (by omega) (by omega)
   have hfs:(List.range (i+1)).flatMap (hcombK n m a)=(List.range i).flatMap (hcombK n m a)++hcombK n m a i:=by rw[List.range_succ,List.flatMap_append];simp
   rw[hfs] at ih2
   have hK:hcombK n m a i=(hcomb n m (a+i+1)).map fun l=>((a+i:Nat):Int)::l:=rfl
   rw[hK,show((a+i:Nat):Int)=(a:Int)+i by omega] at ih2
   rw[show((a+i+1:Nat):Int)=(a:Int)+i+1 by omega] at ih'
   have hel:∀l∈hcomb n m (a+i+1),l.length≤6:=fun l hl=>by rw[(hcomb_mem hl).1];omega
   clear hK hbd ih hfs
   generalize (List.range i).flatMap (hcombK n m a)=B at hb ih2⊢
   generalize hcomb n m (a+i+1)=C at hC ih2 ih' hel
   have hb2:B.length≤10000:=by omega
   clear hb
   simp -implicitDefEqProofs (maxSteps:=9^9) (disch:=omega) only[go_sem,simprocAttr,Int.add_sub_cancel]
   refine ih' _ _ ?_
   simp only[htss]
   simp -implicitDefEqProofs (maxSteps:=9^9) (disch:=omega) only[go_sem,simprocAttr]
   refine ARun.forS (Tryz.envOK (S:=S) 43 (fun _=>([],[])) fs0 fs0_ok) C.length (fun _=>True) (fun k=>[(7,.list (.own σ.length) 1 ((B++(C.take k).map fun l=>((a:Int)+i)::l).map ints1)),(10,.int .i64 k)]) (fun k j2=>σ++(.tail (B++(C.take k).map fun l=>((a:Int)+i)::l).length 1::(j++j2))) [] (by kernel_rfl) (by simp) (by simp[upd,ins,subF,lookA]) trivial ?_ ?_
   ·intro k j2 hk _ ih3
    have hCk:idx (C.map ints1) (k:Int)=some (ints1 C[k]):=idx_nat hk
    have hl:=hel _ (List.getElem_mem hk)
    have hDl:(B++(C.take k).map fun l=>((a:Int)+i)::l).length≤20000:=by rw[List.length_append,List.length_map,List.length_take];omega
    have hst:(B++(C.take (k+1)).map fun l=>((a:Int)+i)::l)=(B++(C.take k).map fun l=>((a:Int)+i)::l)++[((a:Int)+i)::C[k]]:=by
     rw[List.take_succ_eq_append_getElem hk,List.map_append,← List.append_assoc];rfl
    rw[hst] at ih3
    clear hst
    generalize (B++(C.take k).map fun l=>((a:Int)+i)::l)=D at hDl ih3⊢
    generalize C[k]=T at hCk hl ih3
    simp only[ints1] at hCk
    clear ih' ih2 hel
    simp -implicitDefEqProofs (maxSteps:=9^9) (disch:=omega) only[go_sem,simprocAttr,hCk]
    exact(ih3 trivial (j2++[.tail (1+T.length) 1])).castS (by simp) (by simp[upd,ins,subF,lookA,ints1])
   ·intro j2 _
    rw[List.take_length]
    generalize (B++C.map fun l=>((a:Int)+i)::l)=D at ih2⊢
    simp -implicitDefEqProofs (maxSteps:=9^9) (disch:=omega) only[go_sem,simprocAttr]
    exact(ih2 trivial (j++j2)).castS rfl (by simp[upd,ins,subF,lookA,Int.add_assoc])
  ·intro j _
   generalize (List.range (n-a)).flatMap (hcombK n m a)=B
   have e:(a:Int)+((n-a:Nat):Int)=if a≤n then(n:Int) else a:=by split<;> omega
   simp -implicitDefEqProofs (maxSteps:=9^9) (disch:=omega) only[go_sem,simprocAttr,htss]
theorem htss2_plain(A B:List (List Int)):Plain (.tup [htss A,htss B]):= .tup (by simp only[List.mem_cons,List.not_mem_nil,or_false,forall_eq_or_imp,forall_eq];exact⟨htss_plain _,htss_plain _⟩)
theorem devs_in{r:Ros}(hg:r.Good):∀d∈(entsL r).map devR,(-2000000≤d.lo∧d.lo≤2000000)∧ -2000000≤d.hi∧d.hi≤2000000:=fun d hd=>by
 obtain⟨l,hl,rfl⟩:=List.mem_map.1 hd
 obtain⟨x,hx,rfl⟩:=List.mem_map.1 (show l∈r.ents.map fun x=>(chkE x r.hands).1 from hl)
 obtain⟨a,b,e1,e2,e3,e4⟩:=hg.devR hx
 have hdu:=(hg.ent x hx).2.2.1
 rw[e2]
 simp only
 omega
theorem rfewest_p(r:Ros)(hg:r.Good)(hf:r.Fit):PureV S 110 [r.av] (.tup [htss (rfew r).1,htss (rfew r).2]):=by
 have hdv:=rdeviations_p (S:=S) r hg hf.ear
 have hrt:=fun l hl=>rrated_p (S:=S) r hg.toHead (fun t ht=>(hg.ent t ht).1) ((entsL r).map devR) (by rw[List.length_map,entsL_len]) (devs_in hg) l hl r.hands.toNat [] (by have:=hg.hands;simp;omega) (by simp)
 have hh:=hg.hands
 have hlen:=fun l=>rRat_len hg.toHead (D:=(entsL r).map devR) (l:=l) r.hands.toNat []
 have h11:11^r.hands.toNat≤11^4:=Nat.pow_le_pow_right (by omega) (by omega)
 have hH:(r.hands.toNat:Int)=r.hands:=by omega
 refine PvE (Tryz.envOK (S:=S) 54 Tryz.ord110 fs421 fs421_ok) (htss2_plain _ _) Tryz.kp110 Tryz.func110 rfl ?_
 intro σ
 have hrf:rfew r=rfewF r ((entsL r).map devR) (r.hands.toNat+1) 0:=rfl
 rw[hrf]
 clear hrf
 generalize (entsL r).map devR=D at *
 simp only[Ros.av] at hdv hrt⊢
 simp -implicitDefEqProofs (maxSteps:=9^9) (disch:=omega) only[go_sem,simprocAttr]
 refine hdv _ _ ?_
 simp -implicitDefEqProofs (maxSteps:=9^9) (disch:=omega) only[go_sem,simprocAttr]
 obtain⟨σ1,hσ1⟩:∃σ1,σ1=σ++[AObj.cells [.int .i64 r.hands,.int .i64 r.skill,.int .i64 r.mn,.int .i64 r.mx,.list .no 2 (r.sets.map Sg.av),.list .no 6 (r.ents.map Tn.av)]]:=⟨_,rfl⟩
 have hr0:∀j,hget (σ1++j) σ.length=some (.cells [.int .i64 r.hands,.int .i64 r.skill,.int .i64 r.mn,.int .i64 r.mx,.list .no 2 (r.sets.map Sg.av),.list .no 6 (r.ents.map Tn.av)]):=fun j=>by rw[hσ1,List.append_assoc];exact hget_at0
 have hfin:∀j2,∃junk,σ1++j2=σ++junk:=fun j2=>⟨_::j2,by rw[hσ1,List.append_assoc];rfl⟩
 rw[← hσ1]
 clear hσ1
 generalize σ.length=q at hr0⊢
 refine ARun.forS (Tryz.envOK (S:=S) 54 Tryz.ord110 fs421 fs421_ok) (r.hands.toNat+1) (fun i=>rfewF r D (r.hands.toNat+1) 0=rfewF r D (r.hands.toNat+1-i) i) (fun i=>[(5,.int .i64 i)]) (fun _ j=>σ1++j) [] (by kernel_rfl) (by simp) (by simp[upd,ins,subF,lookA]) rfl ?_ ?_
 ·intro i j hi hP ih
  have hiH:((i:Int)≤r.hands)=True:=eq_true (by omega)
  have hwi:IntKind.i64.wrap ((i:Int)+1)=((i+1:Nat):Int):=by rw[wrap64 (by omega) (by omega)];rfl
  have hPs:rfewF r D (r.hands.toNat+1-i) i=if rlM r D i=[] then rfewF r D (r.hands.toNat-i) (i+1) else(rlM r D i,rrM r D i):=by
   rw[show r.hands.toNat+1-i=(r.hands.toNat-i)+1 by omega];rfl
  rw[hPs] at hP
  rw[show r.hands.toNat+1- (i+1)=r.hands.toNat-i by omega] at ih
  clear hPs
  simp -implicitDefEqProofs (maxSteps:=9^9) (disch:=omega) only[go_sem,simprocAttr,hr0,hiH]
  have hcp:=fun σ Q=>rlists_p (S:=S) r.hands.toNat (by omega) i 0 (by omega) (by omega) σ Q
  rw[hH] at hcp
  refine hcp _ _ ?_
  have hl1:rlM r D i=(hcomb r.hands.toNat i 0).filter fun l=>decide (rRat r D l r.hands.toNat []≠[]):=rfl
  have hl2:rrM r D i=(hcomb r.hands.toNat i 0).flatMap fun l=>rRat r D l r.hands.toNat []:=rfl
  have hC:=hcomb_len4 (n:=r.hands.toNat) (m:=i) (a:=0) (by omega) (by omega)
  have hCm:=fun x hx=>@hcomb_mem r.hands.toNat i 0 x hx
  generalize hcomb r.hands.toNat i 0=C at hC hl1 hl2 hCm⊢
  obtain⟨f,hfd⟩:∃f:List Int→List (List Int),f=fun l=>rRat r D l r.hands.toNat []:=⟨_,rfl⟩
  have hfe:∀l,rRat r D l r.hands.toNat []=f l:=fun l=>by rw[hfd]
  simp only[hfe] at hl1 hl2 hrt hlen
  clear hfe hfd hcp
  simp only[htss]
  simp -implicitDefEqProofs (maxSteps:=9^9) (disch:=omega) only[go_sem,simprocAttr]
  refine ARun.ghost 6 1 (sz0:=0) rfl (by simp[lookA]) ?_
  simp only[ins,↓reduceIte,List.append_assoc,List.cons_append,List.nil_append,List.length_append,List.length_cons,List.length_nil,Nat.zero_add,Nat.reduceEqDiff,Nat.add_assoc,Nat.reduceAdd]
  refine ARun.ghost 7 1 (sz0:=0) rfl (by simp[lookA]) ?_
  simp only[ins,↓reduceIte,List.append_assoc,List.cons_append,List.nil_append,List.length_append,List.length_cons,List.length_nil,Nat.zero_add,Nat.reduceEqDiff,Nat.add_assoc,Nat.reduceAdd]
  have hDl:∀k,((C.take k).filter fun l=>decide (f l≠[])).length≤625:=fun k=>Nat.le_trans (List.length_filter_le _ _) (by rw[List.length_take];omega)
  have hEl:∀k,((C.take k).flatMap f).length≤9200000:=fun k=>by
   have key:∀(L:List (List Int)),(L.flatMap f).length≤L.length*14641:=by
    intro L
    induction L with
    | nil=>simp
    | cons a L ih=>
     have h2:=hlen a
     rw[List.flatMap_cons,List.length_append,List.length_cons,Nat.succ_mul]
     omega
   have:=key (C.take k)
   rw[List.length_take] at this
   omega
  refine ARun.forS (Tryz.envOK (S:=S) 54 Tryz.ord110 fs421 fs421_ok) C.length (fun _=>True) (fun k=>[(6,.list (.own (σ1.length+j.length)) 1 (((C.take k).filter fun l=>decide (f l≠[])).map ints1)),(7,.list (.own (σ1.length+(j.length+1))) 1 (((C.take k).flatMap f).map ints1)),(9,.int .i64 k)]) (fun k j2=>σ1++(j++(.tail ((C.take k).filter fun l=>decide (f l≠[])).length 1:: .tail ((C.take k).flatMap f).length 1::j2))) [] (by kernel_rfl) (by simp) (by simp[upd,ins,subF,lookA]) trivial ?_ ?_
  ·intro k j2 hk _ ih2
   have hidx:idx (C.map ints1) (k:Int)=some (ints1 C[k]):=idx_nat hk
   obtain⟨e1,e2,e3⟩:=hCm _ (List.getElem_mem hk)
   have hDk:=hDl k
   have hEk:=hEl k
   have hst:(C.take (k+1)).filter (fun l=>decide (f l≠[]))=(C.take k).filter (fun l=>decide (f l≠[]))++if f C[k]≠[] then[C[k]] else[]:=by
    rw[List.take_succ_eq_append_getElem hk,List.filter_append,List.filter_cons,List.filter_nil]
    simp only[decide_eq_true_eq]
   have hst2:(C.take (k+1)).flatMap f=(C.take k).flatMap f++f C[k]:=by
    rw[List.take_succ_eq_append_getElem hk,List.flatMap_append];simp
   rw[hst,hst2] at ih2
   clear hst hst2 hDl hEl hl1 hl2
   have hxp:=hrt C[k] (by omega)
   have hfl:=hlen C[k]
   generalize (C.take k).filter (fun l=>decide (f l≠[]))=D1 at hDk ih2⊢
   generalize (C.take k).flatMap f=D2 at hEk ih2⊢
   generalize C[k]=x at *
   generalize f x=fx at *
   have hwk:IntKind.i64.wrap ((k:Int)+1)=((k+1:Nat):Int):=by rw[wrap64 (by omega) (by omega)];rfl
   simp only[ints1,htss] at hxp
   simp -implicitDefEqProofs (maxSteps:=9^9) (disch:=omega) only[go_sem,simprocAttr,hr0,hidx,ints1]
   refine ACalls.weaken (l':=[.agg [.int .i64 r.hands,.int .i64 r.skill,.int .i64 r.mn,.int .i64 r.mx,.list .no 2 (r.sets.map Sg.av),.list .no 6 (r.ents.map Tn.av)],.list .no 2 (D.map Rng.av),.list .no 1 (x.map (AV.int .i64)),.list .no 1 (([]:List Int).map (AV.int .i64))]) ⟨⟨rfl,rfl,rfl,rfl,⟨rfl,.inl rfl,.inl rfl⟩,⟨rfl,.inl rfl,.inl rfl⟩,trivial⟩,⟨rfl,.inl rfl,.inl rfl⟩,⟨rfl,.inl rfl,.inl rfl⟩,⟨rfl,.inr rfl,.inl rfl⟩,trivial⟩ (hxp _ _ ?_)
   by_cases ht:fx=[]
   ·subst ht
    simp only[ne_eq,not_true_eq_false,↓reduceIte,List.append_nil] at ih2
    simp -implicitDefEqProofs (maxSteps:=9^9) (disch:=omega) only[go_sem,simprocAttr,hr0,hidx,ints1,hwk]
    exact(ih2 trivial j2).castS (by simp) (by simp[upd,ins,subF,lookA,ints1])
   ·have hpos:0<fx.length:=List.length_pos_iff.2 ht
    have hpos':(0<(fx.length:Int))=True:=eq_true (by omega)
    have hml:(fx.map fun x=>AV.list .no 1 (x.map (.int .i64))).length=fx.length:=by simp
    rw[if_pos ht] at ih2
    simp -implicitDefEqProofs (maxSteps:=9^9) (disch:=omega) only[go_sem,simprocAttr,hr0,hidx,ints1,hwk,hpos',hml]
    exact(ih2 trivial j2).castS (by simp) (by simp[upd,ins,subF,lookA,ints1])
  ·intro j2 _
   have hDk:=hDl C.length
   have hEk:=hEl C.length
   rw[List.take_length] at hDk hEk⊢
   rw[← hl1] at hDk⊢
   rw[← hl2] at hEk⊢
   have hml:((rlM r D i).map ints1).length=(rlM r D i).length:=by simp
   by_cases hne:rlM r D i=[]
   ·rw[if_pos hne] at hP
    have hz:(0<((rlM r D i).length:Int))=False:=eq_false (by rw[hne];simp)
    simp -implicitDefEqProofs (maxSteps:=9^9) (disch:=omega) only[go_sem,simprocAttr,hr0,hwi,hml,hz]
    exact(ih hP (j++(.tail (rlM r D i).length 1:: .tail (rrM r D i).length 1::j2))).castS (by simp) (by simp[upd,ins,subF,lookA])
   ·rw[if_neg hne] at hP
    rw[hP]
    have hpos:0<(rlM r D i).length:=List.length_pos_iff.2 hne
    have hz:(0<((rlM r D i).length:Int))=True:=eq_true (by omega)
    simp -implicitDefEqProofs (maxSteps:=9^9) (disch:=omega) only[go_sem,simprocAttr,hr0,hwi,hml,hz,htss]
    exact⟨hfin _,by simp[wk,wkL,wk1,wk0]⟩
 ·intro j hP
  have hiH:(((r.hands.toNat+1:Nat):Int)≤r.hands)=False:=eq_false (by omega)
  rw[Nat.sub_self] at hP
  rw[hP]
  simp -implicitDefEqProofs (maxSteps:=9^9) (disch:=omega) only[go_sem,simprocAttr,hr0,hiH,rfewF,htss]
  exact⟨hfin _,by simp[wk,wkL,wk1,wk0]⟩
/-! The reference's known, Fewest, Explains. -/
def rkn(r:Ros):List (List Int)×List (List Int):=if knownE r []=0 then rfew r else([],[])
theorem ros_good{r:Ros}(h:rosE r=0):r.Good∧headE r=0∧entsE r=0:=by
 have hh:headE r=0:=Classical.byContradiction fun c=>by unfold rosE at h;rw[if_pos c] at h;exact c h
 have he:entsE r=0:=by unfold rosE at h;rw[if_neg (fun c=>c hh)] at h;exact h
 exact⟨Ros.good_of hh he,hh,he⟩
theorem known_ros{r:Ros}(h:rosE r≠0):knownE r []=rosE r:=by unfold knownE;rw[if_pos h]
theorem rkn1(r:Ros):(rkn r).1=fewL r:=by
 unfold rkn
 by_cases hk:knownE r []=0
 ·rw[if_pos hk]
  have hro:rosE r=0:=Classical.byContradiction fun c=>by rw[known_ros c] at hk;exact c hk
  rcases rfew_spec (ros_good hro).1 hro with⟨_,h,_⟩ | ⟨h,_⟩
  ·exact h
  ·rw[hk] at h;cases h
 ·rw[if_neg hk];unfold fewL;rw[if_neg hk]
theorem htss3_plain(A B:List (List Int))(e:Int):Plain (.tup [htss A,htss B,.int .i64 e]):= .tup (by simp only[List.mem_cons,List.not_mem_nil,or_false,forall_eq_or_imp,forall_eq];exact⟨htss_plain _,htss_plain _,.int⟩)
theorem rknown_p(r:Ros)(hf:r.Fit):PureV S 97 [r.av] (.tup [htss (rkn r).1,htss (rkn r).2,.int .i64 (knownE r [])]):=by
 have hc:=rCheck11_p (S:=S) r hf.sets hf.ents hf.ear
 rw[rosR_eq] at hc
 by_cases hro:rosE r=0
 ·obtain⟨hg,_,_⟩:=ros_good hro
  have hfw:=rfewest_p (S:=S) r hg hf
  rw[hro] at hc
  rcases rfew_spec hg hro with⟨hk,h1,h2,_⟩ | ⟨hk,h1,_,_⟩
  ·have e:rkn r=rfew r:=if_pos hk
   have hne:(rfew r).1≠[]:=by rw[h1];exact h2
   rw[e,hk]
   generalize (rfew r).1=A at *
   generalize (rfew r).2=B at *
   have hz:((A.length:Int)=0)=False:=eq_false (by have:=List.length_pos_iff.2 hne;omega)
   have hml:(A.map ints1).length=A.length:=by simp
   refine PvE (Tryz.envOK (S:=S) 23 (fun _=>([],[])) fs421 fs421_ok) (htss3_plain _ _ _) Tryz.kp97 Tryz.func97 rfl ?_
   intro σ
   simp only[Ros.av,htss] at hc hfw⊢
   simp -implicitDefEqProofs (maxSteps:=9^9) (disch:=omega) only[go_sem,simprocAttr]
   refine hc _ _ ?_
   simp -implicitDefEqProofs (maxSteps:=9^9) (disch:=omega) only[go_sem,simprocAttr]
   refine hfw _ _ ?_
   simp -implicitDefEqProofs (maxSteps:=9^9) (disch:=omega) only[go_sem,simprocAttr,hz,hml]
  ·have e:rkn r=([],[]):=if_neg (by rw[hk];decide)
   rw[e,hk]
   rw[h1] at hfw
   refine PvE (Tryz.envOK (S:=S) 23 (fun _=>([],[])) fs421 fs421_ok) (htss3_plain _ _ _) Tryz.kp97 Tryz.func97 rfl ?_
   intro σ
   simp only[Ros.av,htss,List.map_nil] at hc hfw⊢
   simp -implicitDefEqProofs (maxSteps:=9^9) (disch:=omega) only[go_sem,simprocAttr]
   refine hc _ _ ?_
   simp -implicitDefEqProofs (maxSteps:=9^9) (disch:=omega) only[go_sem,simprocAttr]
   refine hfw _ _ ?_
   simp -implicitDefEqProofs (maxSteps:=9^9) (disch:=omega) only[go_sem,simprocAttr]
 ·have e:rkn r=([],[]):=if_neg (by rw[known_ros hro];exact hro)
  rw[e,known_ros hro]
  generalize rosE r=q at *
  have hro':(q=0)=False:=eq_false hro
  refine PvE (Tryz.envOK (S:=S) 23 (fun _=>([],[])) fs421 fs421_ok) (htss3_plain _ _ _) Tryz.kp97 Tryz.func97 rfl ?_
  intro σ
  simp only[Ros.av,htss,List.map_nil] at hc⊢
  simp -implicitDefEqProofs (maxSteps:=9^9) (disch:=omega) only[go_sem,simprocAttr]
  refine hc _ _ ?_
  simp -implicitDefEqProofs (maxSteps:=9^9) (disch:=omega) only[go_sem,simprocAttr,hro']
def leastF(f:Int→Int)(m:Int×Int)(x:Int):Int×Int:=if f x<m.2 then(x,f x) else m
def leastOf(f:Int→Int)(l:List Int):Int×Int:=(l.drop 1).foldl (leastF f) (l.headD 0,f (l.headD 0))
theorem hleast_c{g:FuncId}{p q:List AV}{σ:List AObj}(f:Int→Int)(x:Int)(l:List Int)(hl:l.length≤1000000)(hn:∀d∈x::l,ClV S g p q σ [.int .i64 d] (.int .i64 (f d)))(tk:Tok)(Q:AV→List AObj→Prop)(h:Q (.tup [.int .i64 (leastOf f (x::l)).1,.int .i64 (leastOf f (x::l)).2]) σ) :
  ACalls S 115 [.list tk 1 ((x::l).map (.int .i64)),.fn (.func g) p q] σ Q:=by
 refine AcE (Tryz.envOK (S:=S) 37 Tryz.ord115 fs0 fs0_ok) Tryz.kp115 Tryz.func115 rfl ?_
 have hld:leastOf f (x::l)=l.foldl (leastF f) (x,f x):=rfl
 rw[hld] at h
 have h0:idx (AV.int .i64 x::l.map (AV.int .i64)) 0=some (.int .i64 x):=rfl
 simp -implicitDefEqProofs (maxSteps:=9^9) (disch:=omega) only[go_sem,simprocAttr,h0]
 refine(hn x (by simp)).ap0 ?_
 have hdt:List.drop 1 (List.take ((l.length:Int)+1).toNat (AV.int .i64 x::l.map (AV.int .i64)))=l.map (.int .i64):=by
  rw[show((l.length:Int)+1).toNat=l.length+1 by omega,List.take_succ_cons,List.drop_succ_cons,List.drop_zero,List.take_of_length_le (by simp)]
 simp -implicitDefEqProofs (maxSteps:=9^9) (disch:=omega) only[go_sem,simprocAttr,h0,hdt]
 refine ARun.forS (Tryz.envOK (S:=S) 37 Tryz.ord115 fs0 fs0_ok) l.length (fun _=>True) (fun i=>[(6,.int .i64 ((l.take i).foldl (leastF f) (x,f x)).1),(7,.int .i64 ((l.take i).foldl (leastF f) (x,f x)).2),(22,.int .i64 i)]) (fun _ _=>σ) [] (by kernel_rfl) rfl (by simp[upd,ins,subF,lookA]) trivial ?_ ?_
 ·intro i j hi _ ih
  rw[take_foldl hi] at ih
  have hmi:=hn l[i] (by simp)
  have hidx:idx (l.map (AV.int .i64)) (i:Int)=some (.int .i64 l[i]):=idx_nat hi
  generalize (l.take i).foldl (leastF f) (x,f x)=m at ih⊢
  generalize l[i]=y at hmi hidx ih
  simp -implicitDefEqProofs (maxSteps:=9^9) (disch:=omega) only[go_sem,simprocAttr,hidx]
  refine hmi.ap0 ?_
  by_cases c:f y<m.2
  ·rw[show leastF f m y=(y,f y) from if_pos c] at ih
   have c':(f y<m.2)=True:=eq_true c
   simp -implicitDefEqProofs (maxSteps:=9^9) (disch:=omega) only[go_sem,simprocAttr,c']
   exact(ih trivial []).castS rfl (by simp[upd,ins,subF,lookA])
  ·rw[show leastF f m y=m from if_neg c] at ih
   have c':(f y<m.2)=False:=eq_false c
   simp -implicitDefEqProofs (maxSteps:=9^9) (disch:=omega) only[go_sem,simprocAttr,c']
   exact(ih trivial []).castS rfl (by simp[upd,ins,subF,lookA])
 ·intro j _
  rw[List.take_length]
  simp -implicitDefEqProofs (maxSteps:=9^9) (disch:=omega) only[go_sem,simprocAttr]
  exact h
def worstH(F:List (List Int))(h:Int):Int:=if(cntL F h:Int)<(F.length:Int)-cntL F h then(F.length:Int)-cntL F h else cntL F h
theorem next1_v{F:List (List Int)}{σ:List AObj}{a:Nat}{d:Int}(hF:F.length≤1000)(hel:∀x∈F,x.length≤1000000)(h1:hget σ a=some (.cells [.list .no 1 (F.map ints1)])):ClV S 116 [] [.ptr a 0] σ [.int .i64 d] (.int .i64 (worstH F d)):=by
 intro σ' hl' hs' Q hq
 have h1':=(hs' _ (hget_lt h1)).trans h1
 simp only[List.nil_append,List.cons_append]
 have hc:cntL F d≤F.length:=by unfold cntL;exact List.length_filter_le _ _
 refine ACalls.clean_ev (E:=Tryz.E (S:=S) 14 Tryz.ord116 fs407) (Tryz.envOK (S:=S) 14 Tryz.ord116 fs407 fs407_ok) (.int _ _) (hq) Tryz.kp116 Tryz.func116 rfl (by kernel_rfl) (by simp[Tryz.E]) (Callable.of Tryz.func116 (by kernel_rfl) (by kernel_rfl)) (by kernel_rfl) ?_
 have hw:IntKind.i64.wrap ((F.length:Int)-cntL F d)=(F.length:Int)-cntL F d:=wrap64 (by omega) (by omega)
 simp -implicitDefEqProofs (maxSteps:=9^9) (disch:=omega) only[go_sem,simprocAttr,h1']
 refine hcount_p F d (by omega) hel _ _ ?_
 simp -implicitDefEqProofs (maxSteps:=9^9) (disch:=omega) only[go_sem,simprocAttr,h1']
 refine hcount_p F d (by omega) hel _ _ ?_
 simp -implicitDefEqProofs (maxSteps:=9^9) (disch:=omega) only[go_sem,simprocAttr,h1',hw]
 rfl
end Go.Proofs
namespace Go.Proofs
open Go Go.Mu Go.Ins
def handsL(n:Nat):List Int:=(List.range n).map fun(h:Nat)=>(h:Int)
def nextL(r:Ros):Int×Int:=if knownE r []=0 then leastOf (worstH (fewL r)) (handsL r.hands.toNat) else(0,0)
theorem handsL_succ{n:Nat}:handsL (n+1)=handsL n++[(n:Int)]:=by unfold handsL;rw[List.range_succ,List.map_append];rfl
theorem handsL_cons{n:Nat}(h:0<n):∃l,handsL n=0::l∧l.length+1=n:=by
 obtain⟨m,rfl⟩:∃m,n=m+1:=⟨n-1,by omega⟩
 refine⟨(List.range m).map fun(h:Nat)=>((h+1:Nat):Int),?_,by simp⟩
 unfold handsL
 rw[List.range_succ_eq_map,List.map_cons,List.map_map];rfl
theorem handNext_p(r:Ros)(hf:r.Fit):PureV SBes 58 [r.av] (.tup [.int .i64 (nextL r).1,.int .i64 (nextL r).2,.int .i64 (knownE r [])]):=by
 refine PvE (Tryz.envOK (S:=SBes) 34 (fun _=>([],[])) fs407 fs407_ok) (.tup (by simp only[List.mem_cons,List.not_mem_nil,or_false,forall_eq_or_imp,forall_eq];exact⟨.int,.int,.int⟩)) Tryz.kp58 Tryz.func58 rfl ?_
 intro σ
 simp only[Ros.av]
 simp -implicitDefEqProofs (maxSteps:=9^9) (disch:=omega) only[go_sem,simprocAttr]
 refine fewest_p r hf _ _ ?_
 obtain⟨hF6,hF4⟩:=fewL_few r
 by_cases hE:knownE r []=0
 ·have hg:=known_good hE
  have hh:=hg.hands
  have hH:(r.hands.toNat:Int)=r.hands:=by omega
  rw[show nextL r=leastOf (worstH (fewL r)) (handsL r.hands.toNat) from if_pos hE,hE]
  generalize fewL r=F at hF6 hF4⊢
  simp -implicitDefEqProofs (maxSteps:=9^9) (disch:=omega) only[go_sem,simprocAttr]
  refine ARun.ghost 6 1 (sz0:=0) rfl (by simp[lookA]) ?_
  simp only[ins,↓reduceIte,Nat.reduceEqDiff,List.append_assoc,List.cons_append,List.nil_append,List.length_append,List.length_cons,List.length_nil,Nat.zero_add,Nat.reduceAdd]
  refine ARun.forS (Tryz.envOK (S:=SBes) 34 (fun _=>([],[])) fs407 fs407_ok) r.hands.toNat (fun _=>True) (fun i=>[(6,.list (.own (σ.length+2)) 1 ((handsL i).map (.int .i64))),(18,.int .i64 i)]) (fun i _=>σ++[.cells [.int .i64 r.hands,.int .i64 r.skill,.int .i64 r.mn,.int .i64 r.mx,.list .no 2 (r.sets.map Sg.av),.list .no 6 (r.ents.map Tn.av)],.cells [.list .no 1 (F.map ints1)],.tail (handsL i).length 1]) [] (by kernel_rfl) (by simp[handsL]) (by simp[upd,ins,subF,lookA,handsL,hH]) trivial ?_ ?_
  ·intro i j hi _ ih
   have hcl:(handsL i).length=i:=by simp[handsL]
   rw[handsL_succ] at ih
   have hwi:IntKind.i64.wrap ((i:Int)+1)=((i+1:Nat):Int):=by rw[wrap64 (by omega) (by omega)];rfl
   generalize handsL i=C at hcl ih⊢
   simp -implicitDefEqProofs (maxSteps:=9^9) (disch:=omega) only[go_sem,simprocAttr,hcl,hwi]
   exact(ih trivial []).castS (by simp[hcl]) (by simp[upd,ins,subF,lookA])
  ·intro j _
   obtain⟨l,hl,hll⟩:=handsL_cons (n:=r.hands.toNat) (by omega)
   rw[hl]
   simp -implicitDefEqProofs (maxSteps:=9^9) (disch:=omega) only[go_sem,simprocAttr]
   refine hleast_c (worstH F) 0 l (by omega) (fun d _=>next1_v (F:=F) (a:=σ.length+1) (by omega) (fun x hx=>by have:=hF4 x hx;omega) (by simp[hget_at])) _ _ ?_
   simp -implicitDefEqProofs (maxSteps:=9^9) (disch:=omega) only[go_sem,simprocAttr]
   all_goals done
 ·have hE':(knownE r []=0)=False:=eq_false hE
  rw[show nextL r=(0,0) from if_neg hE]
  simp -implicitDefEqProofs (maxSteps:=9^9) (disch:=omega) only[go_sem,simprocAttr,hE']
end Go.Proofs
namespace Go.Proofs
open Go Go.Mu Go.Ins
variable {S:MC Tryz.prog}
theorem cntL_succ{l:List (List Int)}{h:Int}{i:Nat}(hi:i<l.length):cntL (l.take (i+1)) h=cntL (l.take i) h+if l[i].contains h then 1 else 0:=by
 unfold cntL
 rw[List.take_succ_eq_append_getElem hi,List.filter_append,List.length_append]
 cases hc:l[i].contains h
 ·simp only[List.filter_cons,hc,List.filter_nil,Bool.false_eq_true,if_false,List.length_nil]
 ·simp only[List.filter_cons,hc,List.filter_nil,if_true,List.length_cons,List.length_nil]
/-! The reference's count, Convicts, Rates. -/
def rhasl_s:=spec2 tIs tI fun l n=>if l.length≤1000000 then some (.bool (l.contains n)) else none
theorem rhasl_ok:∀xs v,rhasl_s xs=some v→PureV S 153 xs v:=
 spec2_ok fun l n v e=>by have e:=someIf e;rw[← e.2];exact rhas_p l e.1 n
def fs422(f:FuncId)(xs:List AV):Option AV:=if f=153 then rhasl_s xs else fs421 f xs
theorem fs422_ok{S:MC Tryz.prog}:∀f xs v,fs422 f xs=some v→PureV S f xs v:=by
 intro f xs v h
 unfold fs422 at h
 split at h
 ·rename_i e;subst e;exact rhasl_ok _ _ h
 exact fs421_ok _ _ _ h
attribute [go_sem] fs422 rhasl_s
theorem rcount_p(l:List (List Int))(h:Int)(hl:l.length≤1000000)(hel:∀x∈l,x.length≤1000000):PureV S 109 [htss l,.int .i64 h] (.int .i64 (cntL l h)):=by
 refine PvE (Tryz.envOK (S:=S) 22 (fun _=>([],[])) fs422 fs422_ok) (.int) Tryz.kp109 Tryz.func109 rfl ?_
 intro σ
 simp only[htss]
 simp -implicitDefEqProofs (maxSteps:=9^9) (disch:=omega) only[go_sem,simprocAttr]
 refine ARun.forS (Tryz.envOK (S:=S) 22 (fun _=>([],[])) fs422 fs422_ok) l.length (fun _=>True) (fun i=>[(5,.int .i64 (cntL (l.take i) h)),(6,.int .i64 i)]) (fun _ _=>σ) [] (by kernel_rfl) rfl (by simp[upd,ins,subF,lookA,cntL]) trivial ?_ ?_
 ·intro i j hi _ ih
  have hidx:idx (l.map ints1) (i:Int)=some (ints1 l[i]):=idx_nat hi
  have hel1:=hel _ (List.getElem_mem hi)
  have hwi:IntKind.i64.wrap ((i:Int)+1)=((i+1:Nat):Int):=by rw[wrap64 (by omega) (by omega)];rfl
  have hci:cntL (l.take i) h≤i:=Nat.le_trans (List.length_filter_le _ _) (by rw[List.length_take];omega)
  rw[cntL_succ hi] at ih
  generalize l[i]=x at *
  generalize cntL (l.take i) h=c at *
  have hwc:IntKind.i64.wrap ((c:Int)+1)=((c+1:Nat):Int):=by rw[wrap64 (by omega) (by omega)];rfl
  simp only[ints1] at hidx
  cases hT:x.contains h
  ·rw[hT] at ih
   simp -implicitDefEqProofs (maxSteps:=9^9) (disch:=omega) only[go_sem,simprocAttr,hidx,hT,hwi]
   exact(ih trivial []).castS rfl (by simp[upd,ins,subF,lookA])
  ·rw[hT] at ih
   simp -implicitDefEqProofs (maxSteps:=9^9) (disch:=omega) only[go_sem,simprocAttr,hidx,hT,hwi,hwc]
   exact(ih trivial []).castS rfl (by simp[upd,ins,subF,lookA])
 ·intro j _
  rw[List.take_length]
  simp -implicitDefEqProofs (maxSteps:=9^9) (disch:=omega) only[go_sem,simprocAttr]
end Go.Proofs
