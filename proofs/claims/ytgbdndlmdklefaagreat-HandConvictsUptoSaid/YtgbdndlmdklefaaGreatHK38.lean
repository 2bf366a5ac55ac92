/- Texts of a proof: lemmas. -/
import Derived.Test.YtgbdndlmdklefaaGreatHK37
import Derived.Test.YtgbdndlmdklefaaGreatHK13
import Derived.Shelf.Sort.Plain
import Derived.Shelf.Slices.CompactI
set_option linter.unusedSimpArgs false
set_option linter.unusedVariables false
set_option maxRecDepth 100000
set_option maxHeartbeats 40000000
namespace Go.Proofs
open Go Go.Mu Go.Ins
variable {S:MC Tryz.prog}
theorem Lb(r:Ros)(hr:r.Head)(hdy:∀t∈r.ents,0≤t.day∧t.day≤60)(D:List Rng)(hD:D.length=r.ents.length)(hDb:∀d∈D,(-2000000≤d.lo∧d.lo≤2000000)∧ -2000000≤d.hi∧d.hi≤2000000)(l:List Int)(hl:l.length≤1000000) :
  ∀(m:Nat) (b:List Int),(b.length:Int)+m=r.hands→(∀n∈b, -5≤n∧n≤5)→al S 108 [r.av,.list .no 2 (D.map Rng.av),ar l,ar b] (c9 (cO r D l m b)):=by
 intro m
 induction m with
 | zero=>
  intro b hb hbb
  have hex:=yw (S:=S) r hr hdy D hD hDb b (by omega) hbb
  refine PvE (Tryz.ah (S:=S) 61 Tryz.sC fC dH) (fg _) Tryz.ES Tryz.func108 rfl ?_
  intro σ
  unfold cO
  generalize mg r D b=B at *
  have hc:((b.length:Int)=r.hands)=True:=eq_true (by omega)
  simp only[Ros.av,ar] at hex⊢
  simp -implicitDefEqProofs (maxSteps:=9^9) (disch:=omega) only[go_sem,simprocAttr,hc]
  refine hex _ _ ?_
  cases B
  ·simp -implicitDefEqProofs (maxSteps:=9^9) (disch:=omega) only[go_sem,simprocAttr,c9,ar,List.map_nil]
  ·simp -implicitDefEqProofs (maxSteps:=9^9) (disch:=omega) only[go_sem,simprocAttr,c9,ar,List.map_nil]
 | succ m ih=>
  intro b hb hbb
  have hhd:=hr.hands
  have hmn:=hr.mn
  have hlen:=jT hr (D:=D) (l:=l) m
  have h11:11^m≤11^3:=Nat.pow_le_pow_right (by omega) (by omega)
  have hhs:=GA (S:=S) l hl (b.length:Int)
  refine PvE (Tryz.ah (S:=S) 61 Tryz.sC fC dH) (fg _) Tryz.ES Tryz.func108 rfl ?_
  intro σ
  have hc:((b.length:Int)=r.hands)=False:=eq_false (by omega)
  by_cases h:l.contains (b.length:Int)=true
  ·have e:cO r D l (m+1) b=(List.range (r.mx-r.mn+1).toNat).flatMap fun(k:Nat)=>if r.mn+k=0 then[] else cO r D l m (b++[r.mn+k]):=by
    show(if l.contains (b.length:Int) then _ else _)=_
    rw[if_pos h]
   rw[e]
   rw[h] at hhs
   have hbd:∀i,i≤11→((List.range i).flatMap fun(k:Nat)=>if r.mn+k=0 then[] else cO r D l m (b++[r.mn+k])).length≤i*1331:=fun i hi=>uq (fun k=>by
    split
    ·simp
    ·exact Nat.le_trans (hlen _) h11) i
   clear e hlen
   obtain⟨F,hF⟩:∃F:Nat→List (List Int),F=fun(k:Nat)=>if r.mn+k=0 then[] else cO r D l m (b++[r.mn+k]):=⟨_,rfl⟩
   rw[← hF] at hbd⊢
   simp only[Ros.av,ar] at hhs⊢
   simp -implicitDefEqProofs (maxSteps:=9^9) (disch:=omega) only[go_sem,simprocAttr,hc]
   refine hhs _ _ ?_
   simp -implicitDefEqProofs (maxSteps:=9^9) (disch:=omega) only[go_sem,simprocAttr]
   refine aj.ghost 9 1 (sz0:=0) rfl (by simp[ae]) ?_
   simp only[ins,↓reduceIte,List.append_assoc,List.cons_append,List.nil_append,List.length_append,List.length_cons,List.length_nil,Nat.zero_add,Nat.reduceEqDiff,Nat.reduceAdd]
   refine aj.bE (Tryz.ah (S:=S) 61 Tryz.sC fC dH) (r.mx-r.mn+1).toNat (fun _=>True) (fun i=>[(9,.list (.own (σ.length+1)) 1 (((List.range i).flatMap F).map ar)),(10,.int .i64 (r.mn+i))]) (fun i j=>σ++(.cells [.int .i64 r.hands,.int .i64 r.skill,.int .i64 r.mn,.int .i64 r.mx,.list .no 2 (r.sets.map Sg.av),.list .no 6 (r.ents.map Tn.av)]:: .tail ((List.range i).flatMap F).length 1::j)) [] (by kernel_rfl) (by simp) (by simp[upd,ins,aw,ae]) trivial ?_ ?_
   ·intro i j hi _ ih2
    have hb2:=hbd i (by omega)
    have hle:(r.mn+(i:Int)≤r.mx)=True:=eq_true (by omega)
    have hwi:IntKind.i64.wrap (r.mn+(i:Int)+1)=r.mn+((i+1:Nat):Int):=by rw[wrap64 (by omega) (by omega)];omega
    have hfs:(List.range (i+1)).flatMap F=(List.range i).flatMap F++F i:=by rw[List.range_succ,List.flatMap_append];simp
    rw[hfs] at ih2
    clear hfs
    generalize (List.range i).flatMap F=B at hb2 ih2⊢
    by_cases h0:r.mn+(i:Int)=0
    ·have h0':(r.mn+(i:Int)=0)=True:=eq_true h0
     have hFi:F i=[]:=by rw[hF];exact if_pos h0
     rw[hFi,List.append_nil] at ih2
     simp -implicitDefEqProofs (maxSteps:=9^9) (disch:=omega) only[go_sem,simprocAttr,hle,h0',hwi]
     exact(ih2 trivial j).ay rfl (by simp[upd,ins,aw,ae])
    ·have h0':(r.mn+(i:Int)=0)=False:=eq_false h0
     have hFi:F i=cO r D l m (b++[r.mn+i]):=by rw[hF];exact if_neg h0
     have hFl:(F i).length≤1331:=by rw[hFi];exact Nat.le_trans (jT hr m _) h11
     have ih':=ih (b++[r.mn+i]) (by simp;omega) (fun n hn=>by
      rcases List.mem_append.1 hn with hn | hn
      ·exact hbb n hn
      ·simp at hn;omega)
     rw[← hFi] at ih'
     simp only[Ros.av,ar,List.map_append,List.map_cons,List.map_nil] at ih'
     clear hFi hF
     generalize F i=C at hFl ih2 ih'
     simp -implicitDefEqProofs (maxSteps:=9^9) (disch:=omega) only[go_sem,simprocAttr,hle,h0',hwi]
     refine ao.weaken (l':=[.agg [.int .i64 r.hands,.int .i64 r.skill,.int .i64 r.mn,.int .i64 r.mx,.list .no 2 (r.sets.map Sg.av),.list .no 6 (r.ents.map Tn.av)],.list .no 2 (D.map Rng.av),.list .no 1 (l.map (AV.int .i64)),.list .no 1 (b.map (AV.int .i64)++[AV.int .i64 (r.mn+(i:Int))])]) ⟨⟨rfl,rfl,rfl,rfl,⟨rfl,.inl rfl,.inl rfl⟩,⟨rfl,.inl rfl,.inl rfl⟩,trivial⟩,⟨rfl,.inl rfl,.inl rfl⟩,⟨rfl,.inl rfl,.inl rfl⟩,⟨rfl,.inl rfl,.inl rfl⟩,trivial⟩ (ih' _ _ ?_)
     simp only[c9]
     simp -implicitDefEqProofs (maxSteps:=9^9) (disch:=omega) only[go_sem,simprocAttr,hwi]
     exact(ih2 trivial (j++[.tail (b.length+1) 1])).ay (by simp) (by simp[upd,ins,aw,ae])
   ·intro j _
    have hle:(r.mn+(((r.mx-r.mn+1).toNat:Nat):Int)≤r.mx)=False:=eq_false (by omega)
    generalize (List.range (r.mx-r.mn+1).toNat).flatMap F=B
    simp -implicitDefEqProofs (maxSteps:=9^9) (disch:=omega) only[go_sem,simprocAttr,hle,c9]
  ·have e:cO r D l (m+1) b=cO r D l m (b++[0]):=by
    show(if l.contains (b.length:Int) then _ else _)=_
    rw[if_neg h]
   rw[e]
   rw[Bool.eq_false_iff.2 h] at hhs
   have ih':=ih (b++[0]) (by simp;omega) (fun n hn=>by
    rcases List.mem_append.1 hn with hn | hn
    ·exact hbb n hn
    ·simp at hn;omega)
   have hRl:=hlen (b++[0])
   generalize cO r D l m (b++[0])=C at *
   simp only[Ros.av,ar,List.map_append,List.map_cons,List.map_nil] at hhs ih'⊢
   simp -implicitDefEqProofs (maxSteps:=9^9) (disch:=omega) only[go_sem,simprocAttr,hc]
   refine hhs _ _ ?_
   simp -implicitDefEqProofs (maxSteps:=9^9) (disch:=omega) only[go_sem,simprocAttr]
   refine ao.weaken (l':=[.agg [.int .i64 r.hands,.int .i64 r.skill,.int .i64 r.mn,.int .i64 r.mx,.list .no 2 (r.sets.map Sg.av),.list .no 6 (r.ents.map Tn.av)],.list .no 2 (D.map Rng.av),.list .no 1 (l.map (AV.int .i64)),.list .no 1 (b.map (AV.int .i64)++[AV.int .i64 0])]) ⟨⟨rfl,rfl,rfl,rfl,⟨rfl,.inl rfl,.inl rfl⟩,⟨rfl,.inl rfl,.inl rfl⟩,trivial⟩,⟨rfl,.inl rfl,.inl rfl⟩,⟨rfl,.inl rfl,.inl rfl⟩,⟨rfl,.inl rfl,.inl rfl⟩,trivial⟩ (ih' _ _ ?_)
   simp only[c9]
   simp -implicitDefEqProofs (maxSteps:=9^9) (disch:=omega) only[go_sem,simprocAttr]
theorem Kh(n:Nat)(hn:n≤4):∀(m a:Nat),m≤4→a≤5→al S 154 [.int .i64 a,.int .i64 n,.int .i64 m] (c9 (cJ n m a)):=by
 intro m
 induction m with
 | zero=>
  intro a hm ha
  refine PvE (Tryz.ah (S:=S) 43 (fun _=>([],[])) fs0 aD) (fg _) Tryz.DK Tryz.func154 rfl ?_
  intro σ
  simp -implicitDefEqProofs (maxSteps:=9^9) (disch:=omega) only[go_sem,simprocAttr,c9,cJ,ar,List.map_nil]
 | succ m ih=>
  intro a hm ha
  refine PvE (Tryz.ah (S:=S) 43 (fun _=>([],[])) fs0 aD) (fg _) Tryz.DK Tryz.func154 rfl ?_
  intro σ
  rw[Ea]
  have hbd:∀i,((List.range i).flatMap (gL n m a)).length≤i*625:=fun i=>uq (fun k=>by unfold gL;rw[List.length_map];exact kQ hn (by omega)) i
  simp -implicitDefEqProofs (maxSteps:=9^9) (disch:=omega) only[go_sem,simprocAttr]
  refine aj.ghost 7 1 (sz0:=0) rfl (by simp[ae]) ?_
  simp only[ins,↓reduceIte,List.append_assoc,List.cons_append,List.nil_append,List.length_append,List.length_cons,List.length_nil,Nat.zero_add,Nat.reduceEqDiff,Nat.reduceAdd]
  refine aj.bE (Tryz.ah (S:=S) 43 (fun _=>([],[])) fs0 aD) (n-a) (fun _=>True) (fun i=>[(7,.list (.own σ.length) 1 (((List.range i).flatMap (gL n m a)).map ar)),(8,.int .i64 ((a:Int)+i))]) (fun i j=>σ++(.tail ((List.range i).flatMap (gL n m a)).length 1::j)) [] (by kernel_rfl) (by simp) (by simp[upd,ins,aw,ae]) trivial ?_ ?_
  ·intro i j hi _ ih2
   have hb:=hbd i
   have hC:(cJ n m (a+i+1)).length≤625:=kQ hn (by omega)
   have ih':=ih (a+i+1) (by omega) (by omega)
   have hfs:(List.range (i+1)).flatMap (gL n m a)=(List.range i).flatMap (gL n m a)++gL n m a i:=by rw[List.range_succ,List.flatMap_append];simp
   rw[hfs] at ih2
   have hK:gL n m a i=(cJ n m (a+i+1)).map fun l=>((a+i:Nat):Int)::l:=rfl
   rw[hK,show((a+i:Nat):Int)=(a:Int)+i by omega] at ih2
   rw[show((a+i+1:Nat):Int)=(a:Int)+i+1 by omega] at ih'
   have hel:∀l∈cJ n m (a+i+1),l.length≤6:=fun l hl=>by rw[(mo hl).1];omega
   clear hK hbd ih hfs
   generalize (List.range i).flatMap (gL n m a)=B at hb ih2⊢
   generalize cJ n m (a+i+1)=C at hC ih2 ih' hel
   have hb2:B.length≤10000:=by omega
   clear hb
   simp -implicitDefEqProofs (maxSteps:=9^9) (disch:=omega) only[go_sem,simprocAttr,Int.add_sub_cancel]
   refine ih' _ _ ?_
   simp only[c9]
   simp -implicitDefEqProofs (maxSteps:=9^9) (disch:=omega) only[go_sem,simprocAttr]
   refine aj.bE (Tryz.ah (S:=S) 43 (fun _=>([],[])) fs0 aD) C.length (fun _=>True) (fun k=>[(7,.list (.own σ.length) 1 ((B++(C.take k).map fun l=>((a:Int)+i)::l).map ar)),(10,.int .i64 k)]) (fun k j2=>σ++(.tail (B++(C.take k).map fun l=>((a:Int)+i)::l).length 1::(j++j2))) [] (by kernel_rfl) (by simp) (by simp[upd,ins,aw,ae]) trivial ?_ ?_
   ·intro k j2 hk _ ih3
    have hCk:idx (C.map ar) (k:Int)=some (ar C[k]):=bu hk
    have hl:=hel _ (List.getElem_mem hk)
    have hDl:(B++(C.take k).map fun l=>((a:Int)+i)::l).length≤20000:=by rw[List.length_append,List.length_map,List.length_take];omega
    have hst:(B++(C.take (k+1)).map fun l=>((a:Int)+i)::l)=(B++(C.take k).map fun l=>((a:Int)+i)::l)++[((a:Int)+i)::C[k]]:=by
     rw[List.take_succ_eq_append_getElem hk,List.map_append,← List.append_assoc];rfl
    rw[hst] at ih3
    clear hst
    generalize (B++(C.take k).map fun l=>((a:Int)+i)::l)=D at hDl ih3⊢
    generalize C[k]=T at hCk hl ih3
    simp only[ar] at hCk
    clear ih' ih2 hel
    simp -implicitDefEqProofs (maxSteps:=9^9) (disch:=omega) only[go_sem,simprocAttr,hCk]
    exact(ih3 trivial (j2++[.tail (1+T.length) 1])).ay (by simp) (by simp[upd,ins,aw,ae,ar])
   ·intro j2 _
    rw[List.take_length]
    generalize (B++C.map fun l=>((a:Int)+i)::l)=D at ih2⊢
    simp -implicitDefEqProofs (maxSteps:=9^9) (disch:=omega) only[go_sem,simprocAttr]
    exact(ih2 trivial (j++j2)).ay rfl (by simp[upd,ins,aw,ae,Int.add_assoc])
  ·intro j _
   generalize (List.range (n-a)).flatMap (gL n m a)=B
   have e:(a:Int)+((n-a:Nat):Int)=if a≤n then(n:Int) else a:=by split<;> omega
   simp -implicitDefEqProofs (maxSteps:=9^9) (disch:=omega) only[go_sem,simprocAttr,c9]
theorem AN(A B:List (List Int)):Plain (.tup [c9 A,c9 B]):= .tup (by simp only[List.mem_cons,List.not_mem_nil,or_false,forall_eq_or_imp,forall_eq];exact⟨fg _,fg _⟩)
theorem BM{r:Ros}(hg:r.Good):∀d∈(aq r).map bF,(-2000000≤d.lo∧d.lo≤2000000)∧ -2000000≤d.hi∧d.hi≤2000000:=fun d hd=>by
 obtain⟨l,hl,rfl⟩:=List.mem_map.1 hd
 obtain⟨x,hx,rfl⟩:=List.mem_map.1 (show l∈r.ents.map fun x=>(bS x r.hands).1 from hl)
 obtain⟨a,b,e1,e2,e3,e4⟩:=hg.bF hx
 have hdu:=(hg.ent x hx).2.2.1
 rw[e2]
 simp only
 omega
theorem v7(r:Ros)(hg:r.Good)(hf:r.Fit):al S 110 [r.av] (.tup [c9 (eO r).1,c9 (eO r).2]):=by
 have hdv:=wO (S:=S) r hg hf.ear
 have hrt:=fun l hl=>Lb (S:=S) r hg.toHead (fun t ht=>(hg.ent t ht).1) ((aq r).map bF) (by rw[List.length_map,we]) (BM hg) l hl r.hands.toNat [] (by have:=hg.hands;simp;omega) (by simp)
 have hh:=hg.hands
 have hlen:=fun l=>jT hg.toHead (D:=(aq r).map bF) (l:=l) r.hands.toNat []
 have h11:11^r.hands.toNat≤11^4:=Nat.pow_le_pow_right (by omega) (by omega)
 have hH:(r.hands.toNat:Int)=r.hands:=by omega
 refine PvE (Tryz.ah (S:=S) 54 Tryz.uj fC dH) (AN _ _) Tryz.Nx Tryz.func110 rfl ?_
 intro σ
 have hrf:eO r=eg r ((aq r).map bF) (r.hands.toNat+1) 0:=rfl
 rw[hrf]
 clear hrf
 generalize (aq r).map bF=D at *
 simp only[Ros.av] at hdv hrt⊢
 simp -implicitDefEqProofs (maxSteps:=9^9) (disch:=omega) only[go_sem,simprocAttr]
 refine hdv _ _ ?_
 simp -implicitDefEqProofs (maxSteps:=9^9) (disch:=omega) only[go_sem,simprocAttr]
 obtain⟨σ1,hσ1⟩:∃σ1,σ1=σ++[aa.cells [.int .i64 r.hands,.int .i64 r.skill,.int .i64 r.mn,.int .i64 r.mx,.list .no 2 (r.sets.map Sg.av),.list .no 6 (r.ents.map Tn.av)]]:=⟨_,rfl⟩
 have hr0:∀j,ai (σ1++j) σ.length=some (.cells [.int .i64 r.hands,.int .i64 r.skill,.int .i64 r.mn,.int .i64 r.mx,.list .no 2 (r.sets.map Sg.av),.list .no 6 (r.ents.map Tn.av)]):=fun j=>by rw[hσ1,List.append_assoc];exact a8
 have hfin:∀j2,∃junk,σ1++j2=σ++junk:=fun j2=>⟨_::j2,by rw[hσ1,List.append_assoc];rfl⟩
 rw[← hσ1]
 clear hσ1
 generalize σ.length=q at hr0⊢
 refine aj.bE (Tryz.ah (S:=S) 54 Tryz.uj fC dH) (r.hands.toNat+1) (fun i=>eg r D (r.hands.toNat+1) 0=eg r D (r.hands.toNat+1-i) i) (fun i=>[(5,.int .i64 i)]) (fun _ j=>σ1++j) [] (by kernel_rfl) (by simp) (by simp[upd,ins,aw,ae]) rfl ?_ ?_
 ·intro i j hi hP ih
  have hiH:((i:Int)≤r.hands)=True:=eq_true (by omega)
  have hwi:IntKind.i64.wrap ((i:Int)+1)=((i+1:Nat):Int):=by rw[wrap64 (by omega) (by omega)];rfl
  have hPs:eg r D (r.hands.toNat+1-i) i=if rlM r D i=[] then eg r D (r.hands.toNat-i) (i+1) else(rlM r D i,rrM r D i):=by
   rw[show r.hands.toNat+1-i=(r.hands.toNat-i)+1 by omega];rfl
  rw[hPs] at hP
  rw[show r.hands.toNat+1- (i+1)=r.hands.toNat-i by omega] at ih
  clear hPs
  simp -implicitDefEqProofs (maxSteps:=9^9) (disch:=omega) only[go_sem,simprocAttr,hr0,hiH]
  have hcp:=fun σ Q=>Kh (S:=S) r.hands.toNat (by omega) i 0 (by omega) (by omega) σ Q
  rw[hH] at hcp
  refine hcp _ _ ?_
  have hl1:rlM r D i=(cJ r.hands.toNat i 0).filter fun l=>decide (cO r D l r.hands.toNat []≠[]):=rfl
  have hl2:rrM r D i=(cJ r.hands.toNat i 0).flatMap fun l=>cO r D l r.hands.toNat []:=rfl
  have hC:=kQ (n:=r.hands.toNat) (m:=i) (a:=0) (by omega) (by omega)
  have hCm:=fun x hx=>@mo r.hands.toNat i 0 x hx
  generalize cJ r.hands.toNat i 0=C at hC hl1 hl2 hCm⊢
  obtain⟨f,hfd⟩:∃f:List Int→List (List Int),f=fun l=>cO r D l r.hands.toNat []:=⟨_,rfl⟩
  have hfe:∀l,cO r D l r.hands.toNat []=f l:=fun l=>by rw[hfd]
  simp only[hfe] at hl1 hl2 hrt hlen
  clear hfe hfd hcp
  simp only[c9]
  simp -implicitDefEqProofs (maxSteps:=9^9) (disch:=omega) only[go_sem,simprocAttr]
  refine aj.ghost 6 1 (sz0:=0) rfl (by simp[ae]) ?_
  simp only[ins,↓reduceIte,List.append_assoc,List.cons_append,List.nil_append,List.length_append,List.length_cons,List.length_nil,Nat.zero_add,Nat.reduceEqDiff,Nat.add_assoc,Nat.reduceAdd]
  refine aj.ghost 7 1 (sz0:=0) rfl (by simp[ae]) ?_
  simp only[ins,↓reduceIte,List.append_assoc,List.cons_append,List.nil_append,List.length_append,List.length_cons,List.length_nil,Nat.zero_add,Nat.reduceEqDiff,Nat.add_assoc,Nat.reduceAdd]
  have hDl:∀k,((C.take k).filter fun l=>decide (f l≠[])).length≤625:=fun k=>Nat.le_trans (List.length_filter_le _ _) (by rw[List.length_take];omega)
  have hEl:∀k,((C.take k).flatMap f).length≤9200000:=fun k=>by
   have key:∀(L:List (List Int)),(L.flatMap f).length≤L.length*14641:=by
    intro L
    induction L with
    | nil=>simp
    | cons a L ih=>
     have h2:=hlen a
     rw[List.flatMap_cons,List.length_append,List.length_cons,Nat.succ_mul]
     omega
   have:=key (C.take k)
   rw[List.length_take] at this
   omega
  refine aj.bE (Tryz.ah (S:=S) 54 Tryz.uj fC dH) C.length (fun _=>True) (fun k=>[(6,.list (.own (σ1.length+j.length)) 1 (((C.take k).filter fun l=>decide (f l≠[])).map ar)),(7,.list (.own (σ1.length+(j.length+1))) 1 (((C.take k).flatMap f).map ar)),(9,.int .i64 k)]) (fun k j2=>σ1++(j++(.tail ((C.take k).filter fun l=>decide (f l≠[])).length 1:: .tail ((C.take k).flatMap f).length 1::j2))) [] (by kernel_rfl) (by simp) (by simp[upd,ins,aw,ae]) trivial ?_ ?_
  ·intro k j2 hk _ ih2
   have hidx:idx (C.map ar) (k:Int)=some (ar C[k]):=bu hk
   obtain⟨e1,e2,e3⟩:=hCm _ (List.getElem_mem hk)
   have hDk:=hDl k
   have hEk:=hEl k
   have hst:(C.take (k+1)).filter (fun l=>decide (f l≠[]))=(C.take k).filter (fun l=>decide (f l≠[]))++if f C[k]≠[] then[C[k]] else[]:=by
    rw[List.take_succ_eq_append_getElem hk,List.filter_append,List.filter_cons,List.filter_nil]
    simp only[decide_eq_true_eq]
   have hst2:(C.take (k+1)).flatMap f=(C.take k).flatMap f++f C[k]:=by
    rw[List.take_succ_eq_append_getElem hk,List.flatMap_append];simp
   rw[hst,hst2] at ih2
   clear hst hst2 hDl hEl hl1 hl2
   have hxp:=hrt C[k] (by omega)
   have hfl:=hlen C[k]
   generalize (C.take k).filter (fun l=>decide (f l≠[]))=D1 at hDk ih2⊢
   generalize (C.take k).flatMap f=D2 at hEk ih2⊢
   generalize C[k]=x at *
   generalize f x=fx at *
   have hwk:IntKind.i64.wrap ((k:Int)+1)=((k+1:Nat):Int):=by rw[wrap64 (by omega) (by omega)];rfl
   simp only[ar,c9] at hxp
   simp -implicitDefEqProofs (maxSteps:=9^9) (disch:=omega) only[go_sem,simprocAttr,hr0,hidx,ar]
   refine ao.weaken (l':=[.agg [.int .i64 r.hands,.int .i64 r.skill,.int .i64 r.mn,.int .i64 r.mx,.list .no 2 (r.sets.map Sg.av),.list .no 6 (r.ents.map Tn.av)],.list .no 2 (D.map Rng.av),.list .no 1 (x.map (AV.int .i64)),.list .no 1 (([]:List Int).map (AV.int .i64))]) ⟨⟨rfl,rfl,rfl,rfl,⟨rfl,.inl rfl,.inl rfl⟩,⟨rfl,.inl rfl,.inl rfl⟩,trivial⟩,⟨rfl,.inl rfl,.inl rfl⟩,⟨rfl,.inl rfl,.inl rfl⟩,⟨rfl,.inr rfl,.inl rfl⟩,trivial⟩ (hxp _ _ ?_)
   by_cases ht:fx=[]
   ·subst ht
    simp only[ne_eq,not_true_eq_false,↓reduceIte,List.append_nil] at ih2
    simp -implicitDefEqProofs (maxSteps:=9^9) (disch:=omega) only[go_sem,simprocAttr,hr0,hidx,ar,hwk]
    exact(ih2 trivial j2).ay (by simp) (by simp[upd,ins,aw,ae,ar])
   ·have hpos:0<fx.length:=List.length_pos_iff.2 ht
    have hpos':(0<(fx.length:Int))=True:=eq_true (by omega)
    have hml:(fx.map fun x=>AV.list .no 1 (x.map (.int .i64))).length=fx.length:=by simp
    rw[if_pos ht] at ih2
    simp -implicitDefEqProofs (maxSteps:=9^9) (disch:=omega) only[go_sem,simprocAttr,hr0,hidx,ar,hwk,hpos',hml]
    exact(ih2 trivial j2).ay (by simp) (by simp[upd,ins,aw,ae,ar])
  ·intro j2 _
   have hDk:=hDl C.length
   have hEk:=hEl C.length
   rw[List.take_length] at hDk hEk⊢
   rw[← hl1] at hDk⊢
   rw[← hl2] at hEk⊢
   have hml:((rlM r D i).map ar).length=(rlM r D i).length:=by simp
   by_cases hne:rlM r D i=[]
   ·rw[if_pos hne] at hP
    have hz:(0<((rlM r D i).length:Int))=False:=eq_false (by rw[hne];simp)
    simp -implicitDefEqProofs (maxSteps:=9^9) (disch:=omega) only[go_sem,simprocAttr,hr0,hwi,hml,hz]
    exact(ih hP (j++(.tail (rlM r D i).length 1:: .tail (rrM r D i).length 1::j2))).ay (by simp) (by simp[upd,ins,aw,ae])
   ·rw[if_neg hne] at hP
    rw[hP]
    have hpos:0<(rlM r D i).length:=List.length_pos_iff.2 hne
    have hz:(0<((rlM r D i).length:Int))=True:=eq_true (by omega)
    simp -implicitDefEqProofs (maxSteps:=9^9) (disch:=omega) only[go_sem,simprocAttr,hr0,hwi,hml,hz,c9]
    exact⟨hfin _,by simp[wk,wkL,wk1,wk0]⟩
 ·intro j hP
  have hiH:(((r.hands.toNat+1:Nat):Int)≤r.hands)=False:=eq_false (by omega)
  rw[Nat.sub_self] at hP
  rw[hP]
  simp -implicitDefEqProofs (maxSteps:=9^9) (disch:=omega) only[go_sem,simprocAttr,hr0,hiH,eg,c9]
  exact⟨hfin _,by simp[wk,wkL,wk1,wk0]⟩
/-! The reference's known, Fewest, Explains. -/
def rkn(r:Ros):List (List Int)×List (List Int):=if aC r []=0 then eO r else([],[])
theorem oy{r:Ros}(h:bP r=0):r.Good∧bX r=0∧gA r=0:=by
 have hh:bX r=0:=Classical.byContradiction fun c=>by unfold bP at h;rw[if_pos c] at h;exact c h
 have he:gA r=0:=by unfold bP at h;rw[if_neg (fun c=>c hh)] at h;exact h
 exact⟨Ros.uX hh he,hh,he⟩
theorem kz{r:Ros}(h:bP r≠0):aC r []=bP r:=by unfold aC;rw[if_pos h]
theorem Vd(r:Ros):(rkn r).1=dV r:=by
 unfold rkn
 by_cases hk:aC r []=0
 ·rw[if_pos hk]
  have hro:bP r=0:=Classical.byContradiction fun c=>by rw[kz c] at hk;exact c hk
  rcases kD (oy hro).1 hro with⟨_,h,_⟩ | ⟨h,_⟩
  ·exact h
  ·rw[hk] at h;cases h
 ·rw[if_neg hk];unfold dV;rw[if_neg hk]
theorem mQ(A B:List (List Int))(e:Int):Plain (.tup [c9 A,c9 B,.int .i64 e]):= .tup (by simp only[List.mem_cons,List.not_mem_nil,or_false,forall_eq_or_imp,forall_eq];exact⟨fg _,fg _,.int⟩)
theorem zM(r:Ros)(hf:r.Fit):al S 97 [r.av] (.tup [c9 (rkn r).1,c9 (rkn r).2,.int .i64 (aC r [])]):=by
 have hc:=nR (S:=S) r hf.sets hf.ents hf.ear
 rw[ve] at hc
 by_cases hro:bP r=0
 ·obtain⟨hg,_,_⟩:=oy hro
  have hfw:=v7 (S:=S) r hg hf
  rw[hro] at hc
  rcases kD hg hro with⟨hk,h1,h2,_⟩ | ⟨hk,h1,_,_⟩
  ·have e:rkn r=eO r:=if_pos hk
   have hne:(eO r).1≠[]:=by rw[h1];exact h2
   rw[e,hk]
   generalize (eO r).1=A at *
   generalize (eO r).2=B at *
   have hz:((A.length:Int)=0)=False:=eq_false (by have:=List.length_pos_iff.2 hne;omega)
   have hml:(A.map ar).length=A.length:=by simp
   refine PvE (Tryz.ah (S:=S) 23 (fun _=>([],[])) fC dH) (mQ _ _ _) Tryz.Di Tryz.func97 rfl ?_
   intro σ
   simp only[Ros.av,c9] at hc hfw⊢
   simp -implicitDefEqProofs (maxSteps:=9^9) (disch:=omega) only[go_sem,simprocAttr]
   refine hc _ _ ?_
   simp -implicitDefEqProofs (maxSteps:=9^9) (disch:=omega) only[go_sem,simprocAttr]
   refine hfw _ _ ?_
   simp -implicitDefEqProofs (maxSteps:=9^9) (disch:=omega) only[go_sem,simprocAttr,hz,hml]
  ·have e:rkn r=([],[]):=if_neg (by rw[hk];decide)
   rw[e,hk]
   rw[h1] at hfw
   refine PvE (Tryz.ah (S:=S) 23 (fun _=>([],[])) fC dH) (mQ _ _ _) Tryz.Di Tryz.func97 rfl ?_
   intro σ
   simp only[Ros.av,c9,List.map_nil] at hc hfw⊢
   simp -implicitDefEqProofs (maxSteps:=9^9) (disch:=omega) only[go_sem,simprocAttr]
   refine hc _ _ ?_
   simp -implicitDefEqProofs (maxSteps:=9^9) (disch:=omega) only[go_sem,simprocAttr]
   refine hfw _ _ ?_
   simp -implicitDefEqProofs (maxSteps:=9^9) (disch:=omega) only[go_sem,simprocAttr]
 ·have e:rkn r=([],[]):=if_neg (by rw[kz hro];exact hro)
  rw[e,kz hro]
  generalize bP r=q at *
  have hro':(q=0)=False:=eq_false hro
  refine PvE (Tryz.ah (S:=S) 23 (fun _=>([],[])) fC dH) (mQ _ _ _) Tryz.Di Tryz.func97 rfl ?_
  intro σ
  simp only[Ros.av,c9,List.map_nil] at hc⊢
  simp -implicitDefEqProofs (maxSteps:=9^9) (disch:=omega) only[go_sem,simprocAttr]
  refine hc _ _ ?_
  simp -implicitDefEqProofs (maxSteps:=9^9) (disch:=omega) only[go_sem,simprocAttr,hro']
/-! The reference's count, Convicts, Rates. -/
def vd:=cW tIs tI fun l n=>if l.length≤1000000 then some (.bool (l.contains n)) else none
theorem Lr:∀xs v,vd xs=some v→al S 153 xs v:=
 cj fun l n v e=>by have e:=b7 e;rw[← e.2];exact GA l e.1 n
def ic(f:FuncId)(xs:List AV):Option AV:=if f=153 then vd xs else fC f xs
theorem fq{S:MC Tryz.prog}:∀f xs v,ic f xs=some v→al S f xs v:=by
 intro f xs v h
 unfold ic at h
 split at h
 ·rename_i e;subst e;exact Lr _ _ h
 exact dH _ _ _ h
attribute [go_sem] ic vd
theorem Jb(l:List (List Int))(h:Int)(hl:l.length≤1000000)(hel:∀x∈l,x.length≤1000000):al S 109 [c9 l,.int .i64 h] (.int .i64 (ec l h)):=by
 refine PvE (Tryz.ah (S:=S) 22 (fun _=>([],[])) ic fq) (.int) Tryz.MJ Tryz.func109 rfl ?_
 intro σ
 simp only[c9]
 simp -implicitDefEqProofs (maxSteps:=9^9) (disch:=omega) only[go_sem,simprocAttr]
 refine aj.bE (Tryz.ah (S:=S) 22 (fun _=>([],[])) ic fq) l.length (fun _=>True) (fun i=>[(5,.int .i64 (ec (l.take i) h)),(6,.int .i64 i)]) (fun _ _=>σ) [] (by kernel_rfl) rfl (by simp[upd,ins,aw,ae,ec]) trivial ?_ ?_
 ·intro i j hi _ ih
  have hidx:idx (l.map ar) (i:Int)=some (ar l[i]):=bu hi
  have hel1:=hel _ (List.getElem_mem hi)
  have hwi:IntKind.i64.wrap ((i:Int)+1)=((i+1:Nat):Int):=by rw[wrap64 (by omega) (by omega)];rfl
  have hci:ec (l.take i) h≤i:=Nat.le_trans (List.length_filter_le _ _) (by rw[List.length_take];omega)
  rw[HC hi] at ih
  generalize l[i]=x at *
  generalize ec (l.take i) h=c at *
  have hwc:IntKind.i64.wrap ((c:Int)+1)=((c+1:Nat):Int):=by rw[wrap64 (by omega) (by omega)];rfl
  simp only[ar] at hidx
  cases hT:x.contains h
  ·rw[hT] at ih
   simp -implicitDefEqProofs (maxSteps:=9^9) (disch:=omega) only[go_sem,simprocAttr,hidx,hT,hwi]
   exact(ih trivial []).ay rfl (by simp[upd,ins,aw,ae])
  ·rw[hT] at ih
   simp -implicitDefEqProofs (maxSteps:=9^9) (disch:=omega) only[go_sem,simprocAttr,hidx,hT,hwi,hwc]
   exact(ih trivial []).ay rfl (by simp[upd,ins,aw,ae])
 ·intro j _
  rw[List.take_length]
  simp -implicitDefEqProofs (maxSteps:=9^9) (disch:=omega) only[go_sem,simprocAttr]
theorem Bl(r:Ros)(hf:r.Fit):al S 54 [r.av] (.tup [ar (jq r),.int .i64 (aC r [])]):=by
 have hkn:=zM (S:=S) r hf
 rw[Vd] at hkn
 generalize (rkn r).2=B at *
 refine PvE (Tryz.ah (S:=S) 43 (fun _=>([],[])) ic fq) (.tup (by simp only[List.mem_cons,List.not_mem_nil,or_false,forall_eq_or_imp,forall_eq];exact⟨(cA _).2,.int⟩)) Tryz.Qu Tryz.func54 rfl ?_
 intro σ
 obtain⟨hF6,hF4⟩:=xR r
 by_cases hE:aC r []=0
 ·have hg:=ej hE
  have hh:=hg.hands
  have hH:(r.hands.toNat:Int)=r.hands:=by omega
  rw[show jq r=dN (dV r) r.hands.toNat from if_pos hE,hE]
  rw[hE] at hkn
  generalize dV r=F at hF6 hF4 hkn⊢
  simp only[Ros.av,c9] at hkn⊢
  simp -implicitDefEqProofs (maxSteps:=9^9) (disch:=omega) only[go_sem,simprocAttr]
  refine hkn _ _ ?_
  simp -implicitDefEqProofs (maxSteps:=9^9) (disch:=omega) only[go_sem,simprocAttr]
  refine aj.ghost 7 1 (sz0:=0) rfl (by simp[ae]) ?_
  simp only[ins,↓reduceIte,Nat.reduceEqDiff,List.append_assoc,List.cons_append,List.nil_append,List.length_append,List.length_cons,List.length_nil,Nat.zero_add]
  refine aj.bE (Tryz.ah (S:=S) 43 (fun _=>([],[])) ic fq) r.hands.toNat (fun _=>True) (fun i=>[(7,.list (.own (σ.length+1)) 1 ((dN F i).map (.int .i64))),(8,.int .i64 i)]) (fun i _=>σ++[.cells [.int .i64 r.hands,.int .i64 r.skill,.int .i64 r.mn,.int .i64 r.mx,.list .no 2 (r.sets.map Sg.av),.list .no 6 (r.ents.map Tn.av)],.tail (dN F i).length 1]) [] (by kernel_rfl) (by simp[dN]) (by simp[upd,ins,aw,ae,dN]) trivial ?_ ?_
  ·intro i j hi _ ih
   have hcl:(dN F i).length=i:=by simp[dN]
   rw[tr] at ih
   have hwi:IntKind.i64.wrap ((i:Int)+1)=((i+1:Nat):Int):=by rw[wrap64 (by omega) (by omega)];rfl
   have hlt:((i:Int)<r.hands)=True:=eq_true (by omega)
   generalize dN F i=C at hcl ih⊢
   have hcv:xC F i=if ec F i=F.length then 1 else if ec F i=0 then 2 else 3:=rfl
   have hFe:∀x∈F,x.length≤1000000:=fun x hx=>by have:=hF4 x hx;omega
   have hml:(F.map ar).length=F.length:=by simp
   simp -implicitDefEqProofs (maxSteps:=9^9) (disch:=omega) only[go_sem,simprocAttr,hlt]
   refine Jb F i (by omega) hFe _ _ ?_
   generalize ec F i=c at hcv⊢
   by_cases c1:c=F.length
   ·rw[if_pos c1] at hcv
    rw[hcv] at ih
    have c1':((c:Int)=F.length)=True:=eq_true (by omega)
    simp -implicitDefEqProofs (maxSteps:=9^9) (disch:=omega) only[go_sem,simprocAttr,c1',hcl,hwi,hml]
    exact(ih trivial []).ay (by simp[hcl]) (by simp[upd,ins,aw,ae])
   ·rw[if_neg c1] at hcv
    have c1':((c:Int)=F.length)=False:=eq_false (by omega)
    by_cases c2:c=0
    ·rw[if_pos c2] at hcv
     rw[hcv] at ih
     have c2':((c:Int)=0)=True:=eq_true (by omega)
     simp -implicitDefEqProofs (maxSteps:=9^9) (disch:=omega) only[go_sem,simprocAttr,c1',c2',hcl,hwi,hml]
     exact(ih trivial []).ay (by simp[hcl]) (by simp[upd,ins,aw,ae])
    ·rw[if_neg c2] at hcv
     rw[hcv] at ih
     have c2':((c:Int)=0)=False:=eq_false (by omega)
     simp -implicitDefEqProofs (maxSteps:=9^9) (disch:=omega) only[go_sem,simprocAttr,c1',c2',hcl,hwi,hml]
     exact(ih trivial []).ay (by simp[hcl]) (by simp[upd,ins,aw,ae])
  ·intro j _
   have hlt:(((r.hands.toNat:Nat):Int)<r.hands)=False:=eq_false (by omega)
   simp -implicitDefEqProofs (maxSteps:=9^9) (disch:=omega) only[go_sem,simprocAttr,ar,hlt]
 ·have hE':(aC r []=0)=False:=eq_false hE
  rw[show jq r=[] from if_neg hE]
  simp only[Ros.av,c9] at hkn⊢
  simp -implicitDefEqProofs (maxSteps:=9^9) (disch:=omega) only[go_sem,simprocAttr]
  refine hkn _ _ ?_
  simp -implicitDefEqProofs (maxSteps:=9^9) (disch:=omega) only[go_sem,simprocAttr,hE',ar,List.map_nil]
def gJ(r:Ros)(h:Int):Int:=if bP r≠0 then bP r else aM r.hands h
theorem yg(r:Ros)(hf:r.Fit)(h:Int):al S 95 [r.av,.int .i64 h] (.int .i64 (gJ r h)):=by
 have hc:=nR (S:=S) r hf.sets hf.ents hf.ear
 rw[ve] at hc
 refine PvE (Tryz.ah (S:=S) 17 (fun _=>([],[])) ic fq) (.int) Tryz.Qz Tryz.func95 rfl ?_
 intro σ
 by_cases hro:bP r=0
 ·have hh:=(oy hro).1.hands
  have hw:IntKind.i64.wrap (r.hands-1)=r.hands-1:=wrap64 (by omega) (by omega)
  rw[show gJ r h=aM r.hands h from if_neg (fun c=>c hro)]
  rw[hro] at hc
  unfold aM
  rw[hw]
  simp only[Ros.av] at hc⊢
  simp -implicitDefEqProofs (maxSteps:=9^9) (disch:=omega) only[go_sem,simprocAttr]
  refine hc _ _ ?_
  by_cases c:0≤h∧h≤r.hands-1
  ·rw[if_pos c]
   have c':decide (0≤h∧h≤r.hands-1)=true:=decide_eq_true c
   simp -implicitDefEqProofs (maxSteps:=9^9) (disch:=omega) only[go_sem,simprocAttr,hw,c']
  ·rw[if_neg c]
   have c':decide (0≤h∧h≤r.hands-1)=false:=decide_eq_false c
   simp -implicitDefEqProofs (maxSteps:=9^9) (disch:=omega) only[go_sem,simprocAttr,hw,c']
 ·rw[show gJ r h=bP r from if_pos hro]
  generalize bP r=q at *
  have hro':(q=0)=False:=eq_false hro
  simp only[Ros.av] at hc⊢
  simp -implicitDefEqProofs (maxSteps:=9^9) (disch:=omega) only[go_sem,simprocAttr]
  refine hc _ _ ?_
  simp -implicitDefEqProofs (maxSteps:=9^9) (disch:=omega) only[go_sem,simprocAttr,hro']
end Go.Proofs
namespace Go.Proofs
open Go Go.Mu Go.Shelf
def Tryz.UG:Ren:=⟨fun x=>if x=20 then 89 else x,fun x=>if x=0 then 0 else if x=3 then 3 else if x=4 then 4 else if x=22 then 22 else x,fun x=>x⟩
theorem Tryz.Q7:Lays2.n20 Tryz.prog Tryz.UG where
 mixed:=by kernel_rfl
 f20:=by kernel_rfl
 t0:=by kernel_rfl
 a0:=fun _=>by rfl
 z0:=fun _=>by rfl
 v0:=fun _=>by rfl
 t3:=by kernel_rfl
 a3:=fun _=>by rfl
 z3:=fun _=>by rfl
 v3:=fun _=>by rfl
 t4:=by kernel_rfl
 a4:=fun _=>by rfl
 z4:=fun _=>by rfl
 v4:=fun _=>by rfl
 t22:=by kernel_rfl
 a22:=fun _=>by rfl
 z22:=fun _=>by rfl
 v22:=fun _=>by rfl
 i3:=by kernel_rfl
def Tryz.Qb:Ren:=⟨fun x=>if x=125 then 142 else if x=128 then 191 else if x=129 then 192 else if x=189 then 88 else if x=215 then 218 else if x=216 then 188 else if x=257 then 141 else if x=294 then 182 else if x=295 then 183 else if x=296 then 184 else if x=297 then 185 else if x=298 then 186 else if x=299 then 187 else if x=300 then 189 else if x=301 then 190 else if x=328 then 219 else if x=329 then 220 else if x=330 then 221 else if x=331 then 222 else if x=332 then 223 else if x=343 then 236 else x,fun x=>if x=0 then 0 else if x=3 then 3 else if x=4 then 4 else if x=5 then 5 else if x=9 then 9 else if x=28 then 22 else if x=46 then 117 else if x=51 then 232 else if x=53 then 114 else if x=131 then 207 else if x=182 then 225 else if x=183 then 226 else if x=218 then 262 else if x=222 then 265 else if x=228 then 275 else if x=229 then 156 else x,fun x=>x⟩
theorem Tryz.ON:Lays.n189 Tryz.prog Tryz.Qb where
 mixed:=by kernel_rfl
 f125:=by kernel_rfl
 f128:=by kernel_rfl
 f129:=by kernel_rfl
 f189:=by kernel_rfl
 f215:=by kernel_rfl
 f216:=by kernel_rfl
 f257:=by kernel_rfl
 f294:=by kernel_rfl
 f295:=by kernel_rfl
 f296:=by kernel_rfl
 f297:=by kernel_rfl
 f298:=by kernel_rfl
 f299:=by kernel_rfl
 f300:=by kernel_rfl
 f301:=by kernel_rfl
 f328:=by kernel_rfl
 f329:=by kernel_rfl
 f330:=by kernel_rfl
 f331:=by kernel_rfl
 f332:=by kernel_rfl
 f343:=by kernel_rfl
 t0:=by kernel_rfl
 a0:=fun _=>by rfl
 z0:=fun _=>by rfl
 v0:=fun _=>by rfl
 t3:=by kernel_rfl
 a3:=fun _=>by rfl
 z3:=fun _=>by rfl
 v3:=fun _=>by rfl
 t4:=by kernel_rfl
 a4:=fun _=>by rfl
 z4:=fun _=>by rfl
 v4:=fun _=>by rfl
 t5:=by kernel_rfl
 a5:=fun _=>by rfl
 z5:=fun _=>by rfl
 v5:=fun _=>by rfl
 t9:=by kernel_rfl
 a9:=fun _=>by rfl
 z9:=fun _=>by rfl
 v9:=fun _=>by rfl
 t28:=by kernel_rfl
 a28:=fun _=>by rfl
 z28:=fun _=>by rfl
 v28:=fun _=>by rfl
 t46:=by kernel_rfl
 a46:=fun _=>by rfl
 z46:=fun _=>by rfl
 v46:=fun _=>by rfl
 t51:=by kernel_rfl
 a51:=fun _=>by rfl
 z51:=fun _=>by rfl
 v51:=fun _=>by rfl
 t53:=by kernel_rfl
 a53:=fun _=>by rfl
 z53:=fun _=>by rfl
 v53:=fun _=>by rfl
 t131:=by kernel_rfl
 a131:=fun _=>by rfl
 z131:=fun _=>by rfl
 v131:=fun _=>by rfl
 t182:=by kernel_rfl
 a182:=fun _=>by rfl
 z182:=fun _=>by rfl
 v182:=fun _=>by rfl
 t183:=by kernel_rfl
 a183:=fun _=>by rfl
 z183:=fun _=>by rfl
 v183:=fun _=>by rfl
 t218:=by kernel_rfl
 a218:=fun _=>by rfl
 z218:=fun _=>by rfl
 v218:=fun _=>by rfl
 t222:=by kernel_rfl
 a222:=fun _=>by rfl
 z222:=fun _=>by rfl
 v222:=fun _=>by rfl
 t228:=by kernel_rfl
 a228:=fun _=>by rfl
 z228:=fun _=>by rfl
 v228:=fun _=>by rfl
 t229:=by kernel_rfl
 a229:=fun _=>by rfl
 z229:=fun _=>by rfl
 v229:=fun _=>by rfl
end Go.Proofs
