/- Texts of a proof: lemmas. -/
import Derived.Test.YtgbdndlmdklefaaGreatDK38
import Derived.Test.YtgbdndlmdklefaaGreatDK36
import Derived.Test.YtgbdndlmdklefaaGreatDK37
set_option linter.unusedSimpArgs false
set_option linter.unusedVariables false
set_option maxRecDepth 100000
set_option maxHeartbeats 40000000
namespace Go.Proofs
open Go Go.Mu Go.Ins
variable {S:MC Tryz.prog}
theorem rrated_p(r:Ros)(hr:r.Head)(hdy:∀t∈r.ents,0≤t.day∧t.day≤60)(D:List Rng)(hD:D.length=r.ents.length)(hDb:∀d∈D,(-2000000≤d.lo∧d.lo≤2000000)∧ -2000000≤d.hi∧d.hi≤2000000)(l:List Int)(hl:l.length≤1000000) :
  ∀(m:Nat) (b:List Int),(b.length:Int)+m=r.hands→(∀n∈b, -5≤n∧n≤5)→PureV S 108 [r.av,.list .no 2 (D.map Rng.av),ints1 l,ints1 b] (htss (rRat r D l m b)):=by
 intro m
 induction m with
 | zero=>
  intro b hb hbb
  have hex:=rexplained_p (S:=S) r hr hdy D hD hDb b (by omega) hbb
  refine PvE (Tryz.envOK (S:=S) 61 Tryz.ord108 fs421 fs421_ok) (htss_plain _) Tryz.kp108 Tryz.func108 rfl ?_
  intro σ
  unfold rRat
  generalize rExpl r D b=B at *
  have hc:((b.length:Int)=r.hands)=True:=eq_true (by omega)
  simp only[Ros.av,ints1] at hex⊢
  simp -implicitDefEqProofs (maxSteps:=9^9) (disch:=omega) only[go_sem,simprocAttr,hc]
  refine hex _ _ ?_
  cases B
  ·simp -implicitDefEqProofs (maxSteps:=9^9) (disch:=omega) only[go_sem,simprocAttr,htss,ints1,List.map_nil]
  ·simp -implicitDefEqProofs (maxSteps:=9^9) (disch:=omega) only[go_sem,simprocAttr,htss,ints1,List.map_nil]
 | succ m ih=>
  intro b hb hbb
  have hhd:=hr.hands
  have hmn:=hr.mn
  have hlen:=rRat_len hr (D:=D) (l:=l) m
  have h11:11^m≤11^3:=Nat.pow_le_pow_right (by omega) (by omega)
  have hhs:=rhas_p (S:=S) l hl (b.length:Int)
  refine PvE (Tryz.envOK (S:=S) 61 Tryz.ord108 fs421 fs421_ok) (htss_plain _) Tryz.kp108 Tryz.func108 rfl ?_
  intro σ
  have hc:((b.length:Int)=r.hands)=False:=eq_false (by omega)
  by_cases h:l.contains (b.length:Int)=true
  ·have e:rRat r D l (m+1) b=(List.range (r.mx-r.mn+1).toNat).flatMap fun(k:Nat)=>if r.mn+k=0 then[] else rRat r D l m (b++[r.mn+k]):=by
    show(if l.contains (b.length:Int) then _ else _)=_
    rw[if_pos h]
   rw[e]
   rw[h] at hhs
   have hbd:∀i,i≤11→((List.range i).flatMap fun(k:Nat)=>if r.mn+k=0 then[] else rRat r D l m (b++[r.mn+k])).length≤i*1331:=fun i hi=>fmLen (fun k=>by
    split
    ·simp
    ·exact Nat.le_trans (hlen _) h11) i
   clear e hlen
   obtain⟨F,hF⟩:∃F:Nat→List (List Int),F=fun(k:Nat)=>if r.mn+k=0 then[] else rRat r D l m (b++[r.mn+k]):=⟨_,rfl⟩
   rw[← hF] at hbd⊢
   simp only[Ros.av,ints1] at hhs⊢
   simp -implicitDefEqProofs (maxSteps:=9^9) (disch:=omega) only[go_sem,simprocAttr,hc]
   refine hhs _ _ ?_
   simp -implicitDefEqProofs (maxSteps:=9^9) (disch:=omega) only[go_sem,simprocAttr]
   refine ARun.ghost 9 1 (sz0:=0) rfl (by simp[lookA]) ?_
   simp only[ins,↓reduceIte,List.append_assoc,List.cons_append,List.nil_append,List.length_append,List.length_cons,List.length_nil,Nat.zero_add,Nat.reduceEqDiff,Nat.reduceAdd]
   refine ARun.forS (Tryz.envOK (S:=S) 61 Tryz.ord108 fs421 fs421_ok) (r.mx-r.mn+1).toNat (fun _=>True) (fun i=>[(9,.list (.own (σ.length+1)) 1 (((List.range i).flatMap F).map ints1)),(10,.int .i64 (r.mn+i))]) (fun i j=>σ++(.cells [.int .i64 r.hands,.int .i64 r.skill,.int .i64 r.mn,.int .i64 r.mx,.list .no 2 (r.sets.map Sg.av),.list .no 6 (r.ents.map Tn.av)]:: .tail ((List.range i).flatMap F).length 1::j)) [] (by kernel_rfl) (by simp) (by simp[upd,ins,subF,lookA]) trivial ?_ ?_
   ·intro i j hi _ ih2
    have hb2:=hbd i (by omega)
    have hle:(r.mn+(i:Int)≤r.mx)=True:=eq_true (by omega)
    have hwi:IntKind.i64.wrap (r.mn+(i:Int)+1)=r.mn+((i+1:Nat):Int):=by rw[wrap64 (by omega) (by omega)];omega
    have hfs:(List.range (i+1)).flatMap F=(List.range i).flatMap F++F i:=by rw[List.range_succ,List.flatMap_append];simp
    rw[hfs] at ih2
    clear hfs
    generalize (List.range i).flatMap F=B at hb2 ih2⊢
    by_cases h0:r.mn+(i:Int)=0
    ·have h0':(r.mn+(i:Int)=0)=True:=eq_true h0
     have hFi:F i=[]:=by rw[hF];exact if_pos h0
     rw[hFi,List.append_nil] at ih2
     simp -implicitDefEqProofs (maxSteps:=9^9) (disch:=omega) only[go_sem,simprocAttr,hle,h0',hwi]
     exact(ih2 trivial j).castS rfl (by simp[upd,ins,subF,lookA])
    ·have h0':(r.mn+(i:Int)=0)=False:=eq_false h0
     have hFi:F i=rRat r D l m (b++[r.mn+i]):=by rw[hF];exact if_neg h0
     have hFl:(F i).length≤1331:=by rw[hFi];exact Nat.le_trans (rRat_len hr m _) h11
     have ih':=ih (b++[r.mn+i]) (by simp;omega) (fun n hn=>by
      rcases List.mem_append.1 hn with hn | hn
      ·exact hbb n hn
      ·simp at hn;omega)
     rw[← hFi] at ih'
     simp only[Ros.av,ints1,List.map_append,List.map_cons,List.map_nil] at ih'
     clear hFi hF
     generalize F i=C at hFl ih2 ih'
     simp -implicitDefEqProofs (maxSteps:=9^9) (disch:=omega) only[go_sem,simprocAttr,hle,h0',hwi]
     refine ACalls.weaken (l':=[.agg [.int .i64 r.hands,.int .i64 r.skill,.int .i64 r.mn,.int .i64 r.mx,.list .no 2 (r.sets.map Sg.av),.list .no 6 (r.ents.map Tn.av)],.list .no 2 (D.map Rng.av),.list .no 1 (l.map (AV.int .i64)),.list .no 1 (b.map (AV.int .i64)++[AV.int .i64 (r.mn+(i:Int))])]) ⟨⟨rfl,rfl,rfl,rfl,⟨rfl,.inl rfl,.inl rfl⟩,⟨rfl,.inl rfl,.inl rfl⟩,trivial⟩,⟨rfl,.inl rfl,.inl rfl⟩,⟨rfl,.inl rfl,.inl rfl⟩,⟨rfl,.inl rfl,.inl rfl⟩,trivial⟩ (ih' _ _ ?_)
     simp only[htss]
     simp -implicitDefEqProofs (maxSteps:=9^9) (disch:=omega) only[go_sem,simprocAttr,hwi]
     exact(ih2 trivial (j++[.tail (b.length+1) 1])).castS (by simp) (by simp[upd,ins,subF,lookA])
   ·intro j _
    have hle:(r.mn+(((r.mx-r.mn+1).toNat:Nat):Int)≤r.mx)=False:=eq_false (by omega)
    generalize (List.range (r.mx-r.mn+1).toNat).flatMap F=B
    simp -implicitDefEqProofs (maxSteps:=9^9) (disch:=omega) only[go_sem,simprocAttr,hle,htss]
  ·have e:rRat r D l (m+1) b=rRat r D l m (b++[0]):=by
    show(if l.contains (b.length:Int) then _ else _)=_
    rw[if_neg h]
   rw[e]
   rw[Bool.eq_false_iff.2 h] at hhs
   have ih':=ih (b++[0]) (by simp;omega) (fun n hn=>by
    rcases List.mem_append.1 hn with hn | hn
    ·exact hbb n hn
    ·simp at hn;omega)
   have hRl:=hlen (b++[0])
   generalize rRat r D l m (b++[0])=C at *
   simp only[Ros.av,ints1,List.map_append,List.map_cons,List.map_nil] at hhs ih'⊢
   simp -implicitDefEqProofs (maxSteps:=9^9) (disch:=omega) only[go_sem,simprocAttr,hc]
   refine hhs _ _ ?_
   simp -implicitDefEqProofs (maxSteps:=9^9) (disch:=omega) only[go_sem,simprocAttr]
   refine ACalls.weaken (l':=[.agg [.int .i64 r.hands,.int .i64 r.skill,.int .i64 r.mn,.int .i64 r.mx,.list .no 2 (r.sets.map Sg.av),.list .no 6 (r.ents.map Tn.av)],.list .no 2 (D.map Rng.av),.list .no 1 (l.map (AV.int .i64)),.list .no 1 (b.map (AV.int .i64)++[AV.int .i64 0])]) ⟨⟨rfl,rfl,rfl,rfl,⟨rfl,.inl rfl,.inl rfl⟩,⟨rfl,.inl rfl,.inl rfl⟩,trivial⟩,⟨rfl,.inl rfl,.inl rfl⟩,⟨rfl,.inl rfl,.inl rfl⟩,⟨rfl,.inl rfl,.inl rfl⟩,trivial⟩ (ih' _ _ ?_)
   simp only[htss]
   simp -implicitDefEqProofs (maxSteps:=9^9) (disch:=omega) only[go_sem,simprocAttr]
theorem sameRos_p(r:Ros)(hs:r.sets.length≤1000000)(he:r.ents.length≤1000000)(hf:∀x∈r.ents,x.ear.tones.length≤1000000∧x.ear.rds.length≤1000000):PureV S 37 [r.av,r.av] (.bool true):=by
 have hse:∀x∈r.ents,PureV S 101 [x.ear.av,x.ear.av] (.bool true):=fun x hx=>by
  have h1:=(hf x hx).1
  have h2:=(hf x hx).2
  have:=sameEars_p (S:=S) x.ear x.ear (by omega) (by omega) (by omega) (by omega)
  rwa [decide_eq_true rfl] at this
 refine PvE (Tryz.envOK (S:=S) 115 Tryz.ord37 fs14 fs14_ok) (.bool) Tryz.kp37 Tryz.func37 rfl ?_
 intro σ
 obtain⟨hands,skill,mn,mx,sets,ents⟩:=r
 simp only[Ros.av] at hs he hf hse⊢
 simp -implicitDefEqProofs (maxSteps:=9^9) (disch:=omega) only[go_sem,simprocAttr]
 refine ARun.forS (Tryz.envOK (S:=S) 115 Tryz.ord37 fs14 fs14_ok) sets.length (fun _=>True) (fun i=>[(6,.int .i64 i)]) (fun _ _=>σ++[.cells [.int .i64 hands,.int .i64 skill,.int .i64 mn,.int .i64 mx,.list .no 2 (sets.map Sg.av),.list .no 6 (ents.map Tn.av)],.cells [.int .i64 hands,.int .i64 skill,.int .i64 mn,.int .i64 mx,.list .no 2 (sets.map Sg.av),.list .no 6 (ents.map Tn.av)]]) [] (by kernel_rfl) (by simp) (by simp[upd,ins,subF,lookA]) trivial ?_ ?_
 ·intro i j hi _ ih
  have hidx:idx (sets.map Sg.av) (i:Int)=some (Sg.av sets[i]):=idx_nat hi
  have hwi:IntKind.i64.wrap ((i:Int)+1)=((i+1:Nat):Int):=by rw[wrap64 (by omega) (by omega)];rfl
  generalize sets[i]=s at *
  simp only[Sg.av] at hidx
  simp -implicitDefEqProofs (maxSteps:=9^9) (disch:=omega) only[go_sem,simprocAttr,hidx,hwi]
  exact(ih trivial []).castS rfl (by simp[upd,ins,subF,lookA])
 ·intro j _
  simp -implicitDefEqProofs (maxSteps:=9^9) (disch:=omega) only[go_sem,simprocAttr]
  refine ARun.forS (Tryz.envOK (S:=S) 115 Tryz.ord37 fs14 fs14_ok) ents.length (fun _=>True) (fun i=>[(7,.int .i64 i)]) (fun i j=>σ++(.cells [.int .i64 hands,.int .i64 skill,.int .i64 mn,.int .i64 mx,.list .no 2 (sets.map Sg.av),.list .no 6 (ents.map Tn.av)]:: .cells [.int .i64 hands,.int .i64 skill,.int .i64 mn,.int .i64 mx,.list .no 2 (sets.map Sg.av),.list .no 6 (ents.map Tn.av)]::j)) [] (by kernel_rfl) (by simp) (by simp[upd,ins,subF,lookA]) trivial ?_ ?_
  ·intro i j hi _ ih
   have hidx:idx (ents.map Tn.av) (i:Int)=some (Tn.av ents[i]):=idx_nat hi
   have hwi:IntKind.i64.wrap ((i:Int)+1)=((i+1:Nat):Int):=by rw[wrap64 (by omega) (by omega)];rfl
   have hsi:=hse _ (List.getElem_mem hi)
   generalize ents[i]=x at *
   obtain⟨day,hand,due,ear⟩:=x
   obtain⟨sl,ts,rs⟩:=ear
   simp only[Tn.av,Tn.cells,Ear.av] at hidx hsi
   simp -implicitDefEqProofs (maxSteps:=9^9) (disch:=omega) only[go_sem,simprocAttr,hidx]
   refine hsi _ _ ?_
   simp -implicitDefEqProofs (maxSteps:=9^9) (disch:=omega) only[go_sem,simprocAttr,hwi]
   exact(ih trivial (j++[.cells [.int .i64 day,.int .i64 hand,.int .i64 due,.int .i64 sl,.list .no 2 (ts.map Rng.av),.list .no 6 (rs.map Rd.av)],.cells [.int .i64 day,.int .i64 hand,.int .i64 due,.int .i64 sl,.list .no 2 (ts.map Rng.av),.list .no 6 (rs.map Rd.av)]])).castS (by simp) (by simp[upd,ins,subF,lookA])
  ·intro j _
   simp -implicitDefEqProofs (maxSteps:=9^9) (disch:=omega) only[go_sem,simprocAttr]
def loudB(e:Ear):Bool:=decide (20<e.tones.length)||decide (20<e.rds.length)
theorem loud11_p(e:Ear)(h1:e.tones.length≤4294967296)(h2:e.rds.length≤4294967296):PureV S 28 [e.av] (.bool (loudB e)):=by
 refine PvE (Tryz.envOK (S:=S) 13 (fun _=>([],[])) fs0 fs0_ok) (.bool) Tryz.kp28 Tryz.func28 rfl ?_
 intro σ
 obtain⟨sl,ts,rs⟩:=e
 simp only[Ear.av,loudB] at h1 h2⊢
 by_cases c1:20<ts.length
 ·have c1':(20<(ts.length:Int))=True:=eq_true (by omega)
  simp -implicitDefEqProofs (maxSteps:=9^9) (disch:=omega) only[go_sem,simprocAttr,c1']
 ·have c1':(20<(ts.length:Int))=False:=eq_false (by omega)
  simp -implicitDefEqProofs (maxSteps:=9^9) (disch:=omega) only[go_sem,simprocAttr,c1']
  simp[c1];omega
def crowdB(r:Ros):Bool:=(r.ents.take 20).any (fun x=>loudB x.ear)||(decide (20<r.sets.length)||decide (20<r.ents.length))
theorem crowd11_p(r:Ros)(hs:r.sets.length≤4294967296)(he:r.ents.length≤4294967296)(hf:∀x∈r.ents,x.ear.tones.length≤4294967296∧x.ear.rds.length≤4294967296):PureV S 27 [r.av] (.bool (crowdB r)):=by
 have hld:=fun x hx=>loud11_p (S:=S) (Tn.ear x) (hf x hx).1 (hf x hx).2
 refine PvE (Tryz.envOK (S:=S) 32 (fun _=>([],[])) fs0 fs0_ok) (.bool) Tryz.kp27 Tryz.func27 rfl ?_
 intro σ
 obtain⟨hands,skill,mn,mx,sets,ents⟩:=r
 simp only[Ros.av,crowdB] at hs he hf hld⊢
 simp -implicitDefEqProofs (maxSteps:=9^9) (disch:=omega) only[go_sem,simprocAttr]
 have hML:(ents.take 20).length≤20:=by rw[List.length_take];omega
 have hMl:(ents.take 20).length=min 20 ents.length:=List.length_take
 refine ARun.forS (Tryz.envOK (S:=S) 32 (fun _=>([],[])) fs0 fs0_ok) (ents.take 20).length (fun i=>((ents.take 20).take i).any (fun x=>loudB x.ear)=false) (fun i=>[(3,.int .i64 i)]) (fun _ j=>σ++(.cells [.int .i64 hands,.int .i64 skill,.int .i64 mn,.int .i64 mx,.list .no 2 (sets.map Sg.av),.list .no 6 (ents.map Tn.av)]::j)) [] (by kernel_rfl) (by simp) (by simp[upd,ins,subF,lookA]) (by simp) ?_ ?_
 ·intro i j hi hp ih
  have hie:i<ents.length:=by omega
  have hidx:idx (ents.map Tn.av) (i:Int)=some (Tn.av ents[i]):=idx_nat hie
  have hwi:IntKind.i64.wrap ((i:Int)+1)=((i+1:Nat):Int):=by rw[wrap64 (by omega) (by omega)];rfl
  have hli:=hld _ (List.getElem_mem hie)
  have hil:((i:Int)<ents.length)=True:=eq_true (by omega)
  have hi20:((i:Int)<20)=True:=eq_true (by omega)
  have hst:((ents.take 20).take (i+1)).any (fun x=>loudB x.ear)=(((ents.take 20).take i).any (fun x=>loudB x.ear)||loudB ents[i].ear):=by
   rw[List.take_succ_eq_append_getElem hi,List.any_append];simp
  have hany:loudB ents[i].ear=true→(ents.take 20).any (fun x=>loudB x.ear)=true:=fun h=>List.any_eq_true.2 ⟨ents[i],by rw[← List.getElem_take (h:=hi)];exact List.getElem_mem hi,h⟩
  rw[hst,hp,Bool.false_or] at ih
  clear hst
  generalize ents[i]=x at *
  obtain⟨day,hand,due,ear⟩:=x
  obtain⟨sl,ts,rs⟩:=ear
  simp only[Tn.av,Tn.cells,Ear.av] at hidx hli hany ih
  simp -implicitDefEqProofs (maxSteps:=9^9) (disch:=omega) only[go_sem,simprocAttr,hidx,hil,hi20]
  refine hli _ _ ?_
  generalize loudB ⟨sl,ts,rs⟩= B at *
  cases B
  ·simp -implicitDefEqProofs (maxSteps:=9^9) (disch:=omega) only[go_sem,simprocAttr,hwi]
   exact(ih rfl j).castS rfl (by simp[upd,ins,subF,lookA])
  ·simp -implicitDefEqProofs (maxSteps:=9^9) (disch:=omega) only[go_sem,simprocAttr]
   rw[hany rfl];rfl
 ·intro j hp
  rw[List.take_length] at hp
  rw[hp,Bool.false_or]
  by_cases c0:ents.length≤20
  ·have hl:((ents.take 20).length:Int)=ents.length:=by omega
   rw[hl]
   by_cases c1:20<sets.length
   ·have c1':(20<(sets.length:Int))=True:=eq_true (by omega)
    simp -implicitDefEqProofs (maxSteps:=9^9) (disch:=omega) only[go_sem,simprocAttr,c1']
   ·have c1':(20<(sets.length:Int))=False:=eq_false (by omega)
    have c2':(20<(ents.length:Int))=False:=eq_false (by omega)
    simp -implicitDefEqProofs (maxSteps:=9^9) (disch:=omega) only[go_sem,simprocAttr,c1',c2']
  ·have hl:((ents.take 20).length:Int)=20:=by omega
   rw[hl]
   have c2':(20<(ents.length:Int))=True:=eq_true (by omega)
   by_cases c1:20<sets.length
   ·have c1':(20<(sets.length:Int))=True:=eq_true (by omega)
    simp -implicitDefEqProofs (maxSteps:=9^9) (disch:=omega) only[go_sem,simprocAttr,c1',c2']
   ·have c1':(20<(sets.length:Int))=False:=eq_false (by omega)
    simp -implicitDefEqProofs (maxSteps:=9^9) (disch:=omega) only[go_sem,simprocAttr,c1',c2']
theorem rlists_p(n:Nat)(hn:n≤4):∀(m a:Nat),m≤4→a≤5→PureV S 154 [.int .i64 a,.int .i64 n,.int .i64 m] (htss (hcomb n m a)):=by
 intro m
 induction m with
 | zero=>
  intro a hm ha
  refine PvE (Tryz.envOK (S:=S) 43 (fun _=>([],[])) fs0 fs0_ok) (htss_plain _) Tryz.kp154 Tryz.func154 rfl ?_
  intro σ
  simp -implicitDefEqProofs (maxSteps:=9^9) (disch:=omega) only[go_sem,simprocAttr,htss,hcomb,ints1,List.map_nil]
 | succ m ih=>
  intro a hm ha
  refine PvE (Tryz.envOK (S:=S) 43 (fun _=>([],[])) fs0 fs0_ok) (htss_plain _) Tryz.kp154 Tryz.func154 rfl ?_
  intro σ
  rw[hcomb_succ]
  have hbd:∀i,((List.range i).flatMap (hcombK n m a)).length≤i*625:=fun i=>fmLen (fun k=>by unfold hcombK;rw[List.length_map];exact hcomb_len4 hn (by omega)) i
  simp -implicitDefEqProofs (maxSteps:=9^9) (disch:=omega) only[go_sem,simprocAttr]
  refine ARun.ghost 7 1 (sz0:=0) rfl (by simp[lookA]) ?_
  simp only[ins,↓reduceIte,List.append_assoc,List.cons_append,List.nil_append,List.length_append,List.length_cons,List.length_nil,Nat.zero_add,Nat.reduceEqDiff,Nat.reduceAdd]
  refine ARun.forS (Tryz.envOK (S:=S) 43 (fun _=>([],[])) fs0 fs0_ok) (n-a) (fun _=>True) (fun i=>[(7,.list (.own σ.length) 1 (((List.range i).flatMap (hcombK n m a)).map ints1)),(8,.int .i64 ((a:Int)+i))]) (fun i j=>σ++(.tail ((List.range i).flatMap (hcombK n m a)).length 1::j)) [] (by kernel_rfl) (by simp) (by simp[upd,ins,subF,lookA]) trivial ?_ ?_
  ·intro i j hi _ ih2
   have hb:=hbd i
   have hC:(hcomb n m (a+i+1)).length≤625:=hcomb_len4 hn (by omega)
   have ih':=ih (a+i+1) (by omega) (by omega)
   have hfs:(List.range (i+1)).flatMap (hcombK n m a)=(List.range i).flatMap (hcombK n m a)++hcombK n m a i:=by rw[List.range_succ,List.flatMap_append];simp
   rw[hfs] at ih2
   have hK:hcombK n m a i=(hcomb n m (a+i+1)).map fun l=>((a+i:Nat):Int)::l:=rfl
   rw[hK,show((a+i:Nat):Int)=(a:Int)+i by omega] at ih2
   rw[show((a+i+1:Nat):Int)=(a:Int)+i+1 by omega] at ih'
   have hel:∀l∈hcomb n m (a+i+1),l.length≤6:=fun l hl=>by rw[(hcomb_mem hl).1];omega
   clear hK hbd ih hfs
   generalize (List.range i).flatMap (hcombK n m a)=B at hb ih2⊢
   generalize hcomb n m (a+i+1)=C at hC ih2 ih' hel
   have hb2:B.length≤10000:=by omega
   clear hb
   simp -implicitDefEqProofs (maxSteps:=9^9) (disch:=omega) only[go_sem,simprocAttr,Int.add_sub_cancel]
   refine ih' _ _ ?_
   simp only[htss]
   simp -implicitDefEqProofs (maxSteps:=9^9) (disch:=omega) only[go_sem,simprocAttr]
   refine ARun.forS (Tryz.envOK (S:=S) 43 (fun _=>([],[])) fs0 fs0_ok) C.length (fun _=>True) (fun k=>[(7,.list (.own σ.length) 1 ((B++(C.take k).map fun l=>((a:Int)+i)::l).map ints1)),(10,.int .i64 k)]) (fun k j2=>σ++(.tail (B++(C.take k).map fun l=>((a:Int)+i)::l).length 1::(j++j2))) [] (by kernel_rfl) (by simp) (by simp[upd,ins,subF,lookA]) trivial ?_ ?_
   ·intro k j2 hk _ ih3
    have hCk:idx (C.map ints1) (k:Int)=some (ints1 C[k]):=idx_nat hk
    have hl:=hel _ (List.getElem_mem hk)
    have hDl:(B++(C.take k).map fun l=>((a:Int)+i)::l).length≤20000:=by rw[List.length_append,List.length_map,List.length_take];omega
    have hst:(B++(C.take (k+1)).map fun l=>((a:Int)+i)::l)=(B++(C.take k).map fun l=>((a:Int)+i)::l)++[((a:Int)+i)::C[k]]:=by
     rw[List.take_succ_eq_append_getElem hk,List.map_append,← List.append_assoc];rfl
    rw[hst] at ih3
    clear hst
    generalize (B++(C.take k).map fun l=>((a:Int)+i)::l)=D at hDl ih3⊢
    generalize C[k]=T at hCk hl ih3
    simp only[ints1] at hCk
    clear ih' ih2 hel
    simp -implicitDefEqProofs (maxSteps:=9^9) (disch:=omega) only[go_sem,simprocAttr,hCk]
    exact(ih3 trivial (j2++[.tail (1+T.length) 1])).castS (by simp) (by simp[upd,ins,subF,lookA,ints1])
   ·intro j2 _
    rw[List.take_length]
    generalize (B++C.map fun l=>((a:Int)+i)::l)=D at ih2⊢
    simp -implicitDefEqProofs (maxSteps:=9^9) (disch:=omega) only[go_sem,simprocAttr]
    exact(ih2 trivial (j++j2)).castS rfl (by simp[upd,ins,subF,lookA,Int.add_assoc])
  ·intro j _
   generalize (List.range (n-a)).flatMap (hcombK n m a)=B
   have e:(a:Int)+((n-a:Nat):Int)=if a≤n then(n:Int) else a:=by split<;> omega
   simp -implicitDefEqProofs (maxSteps:=9^9) (disch:=omega) only[go_sem,simprocAttr,htss]
theorem htss2_plain(A B:List (List Int)):Plain (.tup [htss A,htss B]):= .tup (by simp only[List.mem_cons,List.not_mem_nil,or_false,forall_eq_or_imp,forall_eq];exact⟨htss_plain _,htss_plain _⟩)
theorem devs_in{r:Ros}(hg:r.Good):∀d∈(entsL r).map devR,(-2000000≤d.lo∧d.lo≤2000000)∧ -2000000≤d.hi∧d.hi≤2000000:=fun d hd=>by
 obtain⟨l,hl,rfl⟩:=List.mem_map.1 hd
 obtain⟨x,hx,rfl⟩:=List.mem_map.1 (show l∈r.ents.map fun x=>(chkE x r.hands).1 from hl)
 obtain⟨a,b,e1,e2,e3,e4⟩:=hg.devR hx
 have hdu:=(hg.ent x hx).2.2.1
 rw[e2]
 simp only
 omega
theorem rfewest_p(r:Ros)(hg:r.Good)(hf:r.Fit):PureV S 110 [r.av] (.tup [htss (rfew r).1,htss (rfew r).2]):=by
 have hdv:=rdeviations_p (S:=S) r hg hf.ear
 have hrt:=fun l hl=>rrated_p (S:=S) r hg.toHead (fun t ht=>(hg.ent t ht).1) ((entsL r).map devR) (by rw[List.length_map,entsL_len]) (devs_in hg) l hl r.hands.toNat [] (by have:=hg.hands;simp;omega) (by simp)
 have hh:=hg.hands
 have hlen:=fun l=>rRat_len hg.toHead (D:=(entsL r).map devR) (l:=l) r.hands.toNat []
 have h11:11^r.hands.toNat≤11^4:=Nat.pow_le_pow_right (by omega) (by omega)
 have hH:(r.hands.toNat:Int)=r.hands:=by omega
 refine PvE (Tryz.envOK (S:=S) 54 Tryz.ord110 fs421 fs421_ok) (htss2_plain _ _) Tryz.kp110 Tryz.func110 rfl ?_
 intro σ
 have hrf:rfew r=rfewF r ((entsL r).map devR) (r.hands.toNat+1) 0:=rfl
 rw[hrf]
 clear hrf
 generalize (entsL r).map devR=D at *
 simp only[Ros.av] at hdv hrt⊢
 simp -implicitDefEqProofs (maxSteps:=9^9) (disch:=omega) only[go_sem,simprocAttr]
 refine hdv _ _ ?_
 simp -implicitDefEqProofs (maxSteps:=9^9) (disch:=omega) only[go_sem,simprocAttr]
 obtain⟨σ1,hσ1⟩:∃σ1,σ1=σ++[AObj.cells [.int .i64 r.hands,.int .i64 r.skill,.int .i64 r.mn,.int .i64 r.mx,.list .no 2 (r.sets.map Sg.av),.list .no 6 (r.ents.map Tn.av)]]:=⟨_,rfl⟩
 have hr0:∀j,hget (σ1++j) σ.length=some (.cells [.int .i64 r.hands,.int .i64 r.skill,.int .i64 r.mn,.int .i64 r.mx,.list .no 2 (r.sets.map Sg.av),.list .no 6 (r.ents.map Tn.av)]):=fun j=>by rw[hσ1,List.append_assoc];exact hget_at0
 have hfin:∀j2,∃junk,σ1++j2=σ++junk:=fun j2=>⟨_::j2,by rw[hσ1,List.append_assoc];rfl⟩
 rw[← hσ1]
 clear hσ1
 generalize σ.length=q at hr0⊢
 refine ARun.forS (Tryz.envOK (S:=S) 54 Tryz.ord110 fs421 fs421_ok) (r.hands.toNat+1) (fun i=>rfewF r D (r.hands.toNat+1) 0=rfewF r D (r.hands.toNat+1-i) i) (fun i=>[(5,.int .i64 i)]) (fun _ j=>σ1++j) [] (by kernel_rfl) (by simp) (by simp[upd,ins,subF,lookA]) rfl ?_ ?_
 ·intro i j hi hP ih
  have hiH:((i:Int)≤r.hands)=True:=eq_true (by omega)
  have hwi:IntKind.i64.wrap ((i:Int)+1)=((i+1:Nat):Int):=by rw[wrap64 (by omega) (by omega)];rfl
  have hPs:rfewF r D (r.hands.toNat+1-i) i=if rlM r D i=[] then rfewF r D (r.hands.toNat-i) (i+1) else(rlM r D i,rrM r D i):=by
   rw[show r.hands.toNat+1-i=(r.hands.toNat-i)+1 by omega];rfl
  rw[hPs] at hP
  rw[show r.hands.toNat+1- (i+1)=r.hands.toNat-i by omega] at ih
  clear hPs
  simp -implicitDefEqProofs (maxSteps:=9^9) (disch:=omega) only[go_sem,simprocAttr,hr0,hiH]
  have hcp:=fun σ Q=>rlists_p (S:=S) r.hands.toNat (by omega) i 0 (by omega) (by omega) σ Q
  rw[hH] at hcp
  refine hcp _ _ ?_
  have hl1:rlM r D i=(hcomb r.hands.toNat i 0).filter fun l=>decide (rRat r D l r.hands.toNat []≠[]):=rfl
  have hl2:rrM r D i=(hcomb r.hands.toNat i 0).flatMap fun l=>rRat r D l r.hands.toNat []:=rfl
  have hC:=hcomb_len4 (n:=r.hands.toNat) (m:=i) (a:=0) (by omega) (by omega)
  have hCm:=fun x hx=>@hcomb_mem r.hands.toNat i 0 x hx
  generalize hcomb r.hands.toNat i 0=C at hC hl1 hl2 hCm⊢
  obtain⟨f,hfd⟩:∃f:List Int→List (List Int),f=fun l=>rRat r D l r.hands.toNat []:=⟨_,rfl⟩
  have hfe:∀l,rRat r D l r.hands.toNat []=f l:=fun l=>by rw[hfd]
  simp only[hfe] at hl1 hl2 hrt hlen
  clear hfe hfd hcp
  simp only[htss]
  simp -implicitDefEqProofs (maxSteps:=9^9) (disch:=omega) only[go_sem,simprocAttr]
  refine ARun.ghost 6 1 (sz0:=0) rfl (by simp[lookA]) ?_
  simp only[ins,↓reduceIte,List.append_assoc,List.cons_append,List.nil_append,List.length_append,List.length_cons,List.length_nil,Nat.zero_add,Nat.reduceEqDiff,Nat.add_assoc,Nat.reduceAdd]
  refine ARun.ghost 7 1 (sz0:=0) rfl (by simp[lookA]) ?_
  simp only[ins,↓reduceIte,List.append_assoc,List.cons_append,List.nil_append,List.length_append,List.length_cons,List.length_nil,Nat.zero_add,Nat.reduceEqDiff,Nat.add_assoc,Nat.reduceAdd]
  have hDl:∀k,((C.take k).filter fun l=>decide (f l≠[])).length≤625:=fun k=>Nat.le_trans (List.length_filter_le _ _) (by rw[List.length_take];omega)
  have hEl:∀k,((C.take k).flatMap f).length≤9200000:=fun k=>by
   have key:∀(L:List (List Int)),(L.flatMap f).length≤L.length*14641:=by
    intro L
    induction L with
    | nil=>simp
    | cons a L ih=>
     have h2:=hlen a
     rw[List.flatMap_cons,List.length_append,List.length_cons,Nat.succ_mul]
     omega
   have:=key (C.take k)
   rw[List.length_take] at this
   omega
  refine ARun.forS (Tryz.envOK (S:=S) 54 Tryz.ord110 fs421 fs421_ok) C.length (fun _=>True) (fun k=>[(6,.list (.own (σ1.length+j.length)) 1 (((C.take k).filter fun l=>decide (f l≠[])).map ints1)),(7,.list (.own (σ1.length+(j.length+1))) 1 (((C.take k).flatMap f).map ints1)),(9,.int .i64 k)]) (fun k j2=>σ1++(j++(.tail ((C.take k).filter fun l=>decide (f l≠[])).length 1:: .tail ((C.take k).flatMap f).length 1::j2))) [] (by kernel_rfl) (by simp) (by simp[upd,ins,subF,lookA]) trivial ?_ ?_
  ·intro k j2 hk _ ih2
   have hidx:idx (C.map ints1) (k:Int)=some (ints1 C[k]):=idx_nat hk
   obtain⟨e1,e2,e3⟩:=hCm _ (List.getElem_mem hk)
   have hDk:=hDl k
   have hEk:=hEl k
   have hst:(C.take (k+1)).filter (fun l=>decide (f l≠[]))=(C.take k).filter (fun l=>decide (f l≠[]))++if f C[k]≠[] then[C[k]] else[]:=by
    rw[List.take_succ_eq_append_getElem hk,List.filter_append,List.filter_cons,List.filter_nil]
    simp only[decide_eq_true_eq]
   have hst2:(C.take (k+1)).flatMap f=(C.take k).flatMap f++f C[k]:=by
    rw[List.take_succ_eq_append_getElem hk,List.flatMap_append];simp
   rw[hst,hst2] at ih2
   clear hst hst2 hDl hEl hl1 hl2
   have hxp:=hrt C[k] (by omega)
   have hfl:=hlen C[k]
   generalize (C.take k).filter (fun l=>decide (f l≠[]))=D1 at hDk ih2⊢
   generalize (C.take k).flatMap f=D2 at hEk ih2⊢
   generalize C[k]=x at *
   generalize f x=fx at *
   have hwk:IntKind.i64.wrap ((k:Int)+1)=((k+1:Nat):Int):=by rw[wrap64 (by omega) (by omega)];rfl
   simp only[ints1,htss] at hxp
   simp -implicitDefEqProofs (maxSteps:=9^9) (disch:=omega) only[go_sem,simprocAttr,hr0,hidx,ints1]
   refine ACalls.weaken (l':=[.agg [.int .i64 r.hands,.int .i64 r.skill,.int .i64 r.mn,.int .i64 r.mx,.list .no 2 (r.sets.map Sg.av),.list .no 6 (r.ents.map Tn.av)],.list .no 2 (D.map Rng.av),.list .no 1 (x.map (AV.int .i64)),.list .no 1 (([]:List Int).map (AV.int .i64))]) ⟨⟨rfl,rfl,rfl,rfl,⟨rfl,.inl rfl,.inl rfl⟩,⟨rfl,.inl rfl,.inl rfl⟩,trivial⟩,⟨rfl,.inl rfl,.inl rfl⟩,⟨rfl,.inl rfl,.inl rfl⟩,⟨rfl,.inr rfl,.inl rfl⟩,trivial⟩ (hxp _ _ ?_)
   by_cases ht:fx=[]
   ·subst ht
    simp only[ne_eq,not_true_eq_false,↓reduceIte,List.append_nil] at ih2
    simp -implicitDefEqProofs (maxSteps:=9^9) (disch:=omega) only[go_sem,simprocAttr,hr0,hidx,ints1,hwk]
    exact(ih2 trivial j2).castS (by simp) (by simp[upd,ins,subF,lookA,ints1])
   ·have hpos:0<fx.length:=List.length_pos_iff.2 ht
    have hpos':(0<(fx.length:Int))=True:=eq_true (by omega)
    have hml:(fx.map fun x=>AV.list .no 1 (x.map (.int .i64))).length=fx.length:=by simp
    rw[if_pos ht] at ih2
    simp -implicitDefEqProofs (maxSteps:=9^9) (disch:=omega) only[go_sem,simprocAttr,hr0,hidx,ints1,hwk,hpos',hml]
    exact(ih2 trivial j2).castS (by simp) (by simp[upd,ins,subF,lookA,ints1])
  ·intro j2 _
   have hDk:=hDl C.length
   have hEk:=hEl C.length
   rw[List.take_length] at hDk hEk⊢
   rw[← hl1] at hDk⊢
   rw[← hl2] at hEk⊢
   have hml:((rlM r D i).map ints1).length=(rlM r D i).length:=by simp
   by_cases hne:rlM r D i=[]
   ·rw[if_pos hne] at hP
    have hz:(0<((rlM r D i).length:Int))=False:=eq_false (by rw[hne];simp)
    simp -implicitDefEqProofs (maxSteps:=9^9) (disch:=omega) only[go_sem,simprocAttr,hr0,hwi,hml,hz]
    exact(ih hP (j++(.tail (rlM r D i).length 1:: .tail (rrM r D i).length 1::j2))).castS (by simp) (by simp[upd,ins,subF,lookA])
   ·rw[if_neg hne] at hP
    rw[hP]
    have hpos:0<(rlM r D i).length:=List.length_pos_iff.2 hne
    have hz:(0<((rlM r D i).length:Int))=True:=eq_true (by omega)
    simp -implicitDefEqProofs (maxSteps:=9^9) (disch:=omega) only[go_sem,simprocAttr,hr0,hwi,hml,hz,htss]
    exact⟨hfin _,by simp[wk,wkL,wk1,wk0]⟩
 ·intro j hP
  have hiH:(((r.hands.toNat+1:Nat):Int)≤r.hands)=False:=eq_false (by omega)
  rw[Nat.sub_self] at hP
  rw[hP]
  simp -implicitDefEqProofs (maxSteps:=9^9) (disch:=omega) only[go_sem,simprocAttr,hr0,hiH,rfewF,htss]
  exact⟨hfin _,by simp[wk,wkL,wk1,wk0]⟩
/-! The reference's known, Fewest, Explains. -/
def rkn(r:Ros):List (List Int)×List (List Int):=if knownE r []=0 then rfew r else([],[])
theorem ros_good{r:Ros}(h:rosE r=0):r.Good∧headE r=0∧entsE r=0:=by
 have hh:headE r=0:=Classical.byContradiction fun c=>by unfold rosE at h;rw[if_pos c] at h;exact c h
 have he:entsE r=0:=by unfold rosE at h;rw[if_neg (fun c=>c hh)] at h;exact h
 exact⟨Ros.good_of hh he,hh,he⟩
theorem known_ros{r:Ros}(h:rosE r≠0):knownE r []=rosE r:=by unfold knownE;rw[if_pos h]
theorem rkn1(r:Ros):(rkn r).1=fewL r:=by
 unfold rkn
 by_cases hk:knownE r []=0
 ·rw[if_pos hk]
  have hro:rosE r=0:=Classical.byContradiction fun c=>by rw[known_ros c] at hk;exact c hk
  rcases rfew_spec (ros_good hro).1 hro with⟨_,h,_⟩ | ⟨h,_⟩
  ·exact h
  ·rw[hk] at h;cases h
 ·rw[if_neg hk];unfold fewL;rw[if_neg hk]
theorem htss3_plain(A B:List (List Int))(e:Int):Plain (.tup [htss A,htss B,.int .i64 e]):= .tup (by simp only[List.mem_cons,List.not_mem_nil,or_false,forall_eq_or_imp,forall_eq];exact⟨htss_plain _,htss_plain _,.int⟩)
theorem rknown_p(r:Ros)(hf:r.Fit):PureV S 97 [r.av] (.tup [htss (rkn r).1,htss (rkn r).2,.int .i64 (knownE r [])]):=by
 have hc:=rCheck11_p (S:=S) r hf.sets hf.ents hf.ear
 rw[rosR_eq] at hc
 by_cases hro:rosE r=0
 ·obtain⟨hg,_,_⟩:=ros_good hro
  have hfw:=rfewest_p (S:=S) r hg hf
  rw[hro] at hc
  rcases rfew_spec hg hro with⟨hk,h1,h2,_⟩ | ⟨hk,h1,_,_⟩
  ·have e:rkn r=rfew r:=if_pos hk
   have hne:(rfew r).1≠[]:=by rw[h1];exact h2
   rw[e,hk]
   generalize (rfew r).1=A at *
   generalize (rfew r).2=B at *
   have hz:((A.length:Int)=0)=False:=eq_false (by have:=List.length_pos_iff.2 hne;omega)
   have hml:(A.map ints1).length=A.length:=by simp
   refine PvE (Tryz.envOK (S:=S) 23 (fun _=>([],[])) fs421 fs421_ok) (htss3_plain _ _ _) Tryz.kp97 Tryz.func97 rfl ?_
   intro σ
   simp only[Ros.av,htss] at hc hfw⊢
   simp -implicitDefEqProofs (maxSteps:=9^9) (disch:=omega) only[go_sem,simprocAttr]
   refine hc _ _ ?_
   simp -implicitDefEqProofs (maxSteps:=9^9) (disch:=omega) only[go_sem,simprocAttr]
   refine hfw _ _ ?_
   simp -implicitDefEqProofs (maxSteps:=9^9) (disch:=omega) only[go_sem,simprocAttr,hz,hml]
  ·have e:rkn r=([],[]):=if_neg (by rw[hk];decide)
   rw[e,hk]
   rw[h1] at hfw
   refine PvE (Tryz.envOK (S:=S) 23 (fun _=>([],[])) fs421 fs421_ok) (htss3_plain _ _ _) Tryz.kp97 Tryz.func97 rfl ?_
   intro σ
   simp only[Ros.av,htss,List.map_nil] at hc hfw⊢
   simp -implicitDefEqProofs (maxSteps:=9^9) (disch:=omega) only[go_sem,simprocAttr]
   refine hc _ _ ?_
   simp -implicitDefEqProofs (maxSteps:=9^9) (disch:=omega) only[go_sem,simprocAttr]
   refine hfw _ _ ?_
   simp -implicitDefEqProofs (maxSteps:=9^9) (disch:=omega) only[go_sem,simprocAttr]
 ·have e:rkn r=([],[]):=if_neg (by rw[known_ros hro];exact hro)
  rw[e,known_ros hro]
  generalize rosE r=q at *
  have hro':(q=0)=False:=eq_false hro
  refine PvE (Tryz.envOK (S:=S) 23 (fun _=>([],[])) fs421 fs421_ok) (htss3_plain _ _ _) Tryz.kp97 Tryz.func97 rfl ?_
  intro σ
  simp only[Ros.av,htss,List.map_nil] at hc⊢
  simp -implicitDefEqProofs (maxSteps:=9^9) (disch:=omega) only[go_sem,simprocAttr]
  refine hc _ _ ?_
  simp -implicitDefEqProofs (maxSteps:=9^9) (disch:=omega) only[go_sem,simprocAttr,hro']
theorem rFewest_p(r:Ros)(hf:r.Fit):PureV S 49 [r.av] (.tup [htss (fewL r),.int .i64 (knownE r [])]):=by
 have hkn:=rknown_p (S:=S) r hf
 rw[rkn1] at hkn
 generalize fewL r=A at *
 generalize (rkn r).2=B at *
 generalize knownE r []=e at *
 refine PvE (Tryz.envOK (S:=S) 15 (fun _=>([],[])) fs421 fs421_ok) (.tup (by simp only[List.mem_cons,List.not_mem_nil,or_false,forall_eq_or_imp,forall_eq];exact⟨htss_plain _,.int⟩)) Tryz.kp49 Tryz.func49 rfl ?_
 intro σ
 simp only[Ros.av,htss] at hkn⊢
 simp -implicitDefEqProofs (maxSteps:=9^9) (disch:=omega) only[go_sem,simprocAttr]
 refine hkn _ _ ?_
 simp -implicitDefEqProofs (maxSteps:=9^9) (disch:=omega) only[go_sem,simprocAttr]
/-! Explains: hands that are asked. -/
def hnE(n:Int)(l:List Int)(i:Nat):Int:=if 0≤tg l i∧tg l i≤n-1 then(if 0<i∧tg l i≤tg l ((i:Int)-1) then 5 else 0) else 3
def explE(r:Ros)(l:List Int):Int:=if rosE r≠0 then rosE r else firstE (hnE r.hands l) (List.range l.length)
def explB(r:Ros)(l:List Int):Bool:=decide (explE r l=0)&&decide (htruthsR r (entsL r) (setN l)≠[])
theorem firstE_range{f:Nat→Int}{n i:Nat}(h:i<n):firstE f ((List.range n).drop i)=if f i=0 then firstE f ((List.range n).drop (i+1)) else f i:=by
 rw[firstE_drop (by simpa using h)]
 simp only[List.getElem_range]
theorem explE_nn{r:Ros}{l:List Int}(h:explE r l=0):rosE r=0∧(∀x∈l,0≤x∧x<r.hands)∧l.Pairwise (· < ·):=by
 have h1:rosE r=0:=Classical.byContradiction fun c=>by unfold explE at h;rw[if_pos c] at h;exact c h
 unfold explE at h
 rw[if_neg (fun c=>c h1)] at h
 have ha:=firstE_all h
 have hin:∀i (hi:i<l.length),0≤l[i]∧l[i]≤r.hands-1:=fun i hi=>by
  have:=ha i (List.mem_range.2 hi)
  unfold hnE at this
  have e:tg l i=l[i]:=by simp[tg,List.getD_eq_getElem?_getD,List.getElem?_eq_getElem hi]
  rw[e] at this
  split at this
  ·assumption
  ·cases this
 have hst:∀i (hi:i+1<l.length),l[i]<l[i+1]:=fun i hi=>by
  have:=ha (i+1) (List.mem_range.2 hi)
  unfold hnE at this
  have e:tg l ((i+1:Nat):Int)=l[i+1]:=by simp[tg,List.getD_eq_getElem?_getD,List.getElem?_eq_getElem hi]
  have e2:tg l (((i+1:Nat):Int)-1)=l[i]:=by
   rw[show((i+1:Nat):Int)-1=(i:Int) by omega]
   simp[tg,List.getD_eq_getElem?_getD,List.getElem?_eq_getElem (show i<l.length by omega)]
  rw[e,e2,if_pos (hin _ hi)] at this
  split at this
  ·cases this
  ·rename_i c;omega
 refine⟨h1,fun x hx=>?_,?_⟩
 ·obtain⟨i,hi,rfl⟩:=List.getElem_of_mem hx
  have:=hin i hi;omega
 ·rw[List.pairwise_iff_getElem]
  intro i j hi hj hij
  have key:∀k,(hk:i+1+k<l.length)→l[i]<l[i+1+k]:=by
   intro k
   induction k with
   | zero=>intro hk;exact hst i hk
   | succ k ih=>intro hk;exact Int.lt_trans (ih (by omega)) (hst (i+1+k) hk)
  have:=key (j-i-1) (by omega)
  have e:i+1+(j-i-1)=j:=by omega
  simp only[e] at this
  exact this
theorem rExplains_p(r:Ros)(hf:r.Fit)(l:List Int)(hl:l.length≤1000):PureV S 48 [r.av,ints1 l] (.tup [.bool (explB r l),.int .i64 (explE r l)]):=by
 have hc:=rCheck11_p (S:=S) r hf.sets hf.ents hf.ear
 rw[rosR_eq] at hc
 have hB:explB r l=(decide (explE r l=0)&&decide (htruthsR r (entsL r) (setN l)≠[])):=rfl
 have hnn:=@explE_nn r l
 have hE:explE r l=if rosE r≠0 then rosE r else firstE (hnE r.hands l) (List.range l.length):=rfl
 refine PvE (Tryz.envOK (S:=S) 49 Tryz.ord48 fs421 fs421_ok) (.tup (by simp only[List.mem_cons,List.not_mem_nil,or_false,forall_eq_or_imp,forall_eq];exact⟨.bool,.int⟩)) Tryz.kp48 Tryz.func48 rfl ?_
 intro σ
 by_cases hro:rosE r=0
 ·rw[if_neg (fun c=>c hro)] at hE
  obtain⟨hg,_,_⟩:=ros_good hro
  have hh:=hg.hands
  have hw:IntKind.i64.wrap (r.hands-1)=r.hands-1:=wrap64 (by omega) (by omega)
  have hdv:=rdeviations_p (S:=S) r hg hf.ear
  have hrt:=rrated_p (S:=S) r hg.toHead (fun t ht=>(hg.ent t ht).1) ((entsL r).map devR) (by rw[List.length_map,entsL_len]) (devs_in hg) l (by omega) r.hands.toNat [] (by simp;omega) (by simp)
  have hln:=rRat_len hg.toHead (D:=(entsL r).map devR) (l:=l) r.hands.toNat []
  have h11:11^r.hands.toNat≤11^4:=Nat.pow_le_pow_right (by omega) (by omega)
  have hnil:=fun h=>rat_nil hg (l:=l) h
  rw[hro] at hc
  rw[hB]
  clear hB
  generalize (entsL r).map devR=D at *
  generalize rRat r D l r.hands.toNat []=R at *
  generalize htruthsR r (entsL r) (setN l)=T at *
  generalize explE r l=e at *
  simp only[Ros.av,ints1,htss,List.map_nil] at hc hdv hrt⊢
  simp -implicitDefEqProofs (maxSteps:=9^9) (disch:=omega) only[go_sem,simprocAttr]
  refine hc _ _ ?_
  simp -implicitDefEqProofs (maxSteps:=9^9) (disch:=omega) only[go_sem,simprocAttr]
  refine ARun.forS (Tryz.envOK (S:=S) 49 Tryz.ord48 fs421 fs421_ok) l.length (fun i=>firstE (hnE r.hands l) ((List.range l.length).drop i)=e) (fun i=>[(7,.int .i64 i)]) (fun _ _=>σ++[.cells [.int .i64 r.hands,.int .i64 r.skill,.int .i64 r.mn,.int .i64 r.mx,.list .no 2 (r.sets.map Sg.av),.list .no 6 (r.ents.map Tn.av)]]) [] (by kernel_rfl) (by simp) (by simp[upd,ins,subF,lookA]) (by rw[hE];rfl) ?_ ?_
  ·intro i j hi hp ih
   rw[firstE_range hi] at hp
   have hidx:idx (l.map (AV.int .i64)) (i:Int)=some (.int .i64 (tg l i)):=idx_tg ⟨by omega,by omega⟩
   have hidp:0<i→idx (l.map (AV.int .i64)) ((i:Int)-1)=some (.int .i64 (tg l ((i:Int)-1))):=fun h=>idx_tg ⟨by omega,by omega⟩
   have hwi:IntKind.i64.wrap ((i:Int)+1)=((i+1:Nat):Int):=by rw[wrap64 (by omega) (by omega)];rfl
   have hwp:IntKind.i64.wrap ((i:Int)-1)=(i:Int)-1:=wrap64 (by omega) (by omega)
   have hhe:hnE r.hands l i=if 0≤tg l i∧tg l i≤r.hands-1 then(if 0<i∧tg l i≤tg l ((i:Int)-1) then 5 else 0) else 3:=rfl
   rw[hhe] at hp
   clear hhe hE
   generalize tg l ((i:Int)-1)=p at *
   generalize tg l i=x at *
   by_cases c1:0≤x∧x≤r.hands-1
   ·have c1':decide (0≤x∧x≤r.hands-1)=true:=decide_eq_true c1
    rw[if_pos c1] at hp
    by_cases h0:0<i
    ·have h0':(0<(i:Int))=True:=eq_true (by omega)
     have hidp:=hidp h0
     by_cases c2:x≤p
     ·have c2':=eq_true c2
      rw[if_pos (show 0<i∧x≤p from⟨h0,c2⟩),if_neg (by decide)] at hp
      subst hp
      simp -implicitDefEqProofs (maxSteps:=9^9) (disch:=omega) only[go_sem,simprocAttr,hidx,hw,c1',h0',hidp,hwp,c2']
     ·have c2':=eq_false c2
      rw[if_neg (show¬(0<i∧x≤p) from fun c=>c2 c.2),if_pos rfl] at hp
      simp -implicitDefEqProofs (maxSteps:=9^9) (disch:=omega) only[go_sem,simprocAttr,hidx,hw,c1',h0',hidp,hwp,c2',hwi]
      exact(ih hp []).castS rfl (by simp[upd,ins,subF,lookA])
    ·have h0':(0<(i:Int))=False:=eq_false (by omega)
     rw[if_neg (show¬(0<i∧x≤p) from fun c=>h0 c.1),if_pos rfl] at hp
     simp -implicitDefEqProofs (maxSteps:=9^9) (disch:=omega) only[go_sem,simprocAttr,hidx,hw,c1',h0',hwi]
     exact(ih hp []).castS rfl (by simp[upd,ins,subF,lookA])
   ·have c1':decide (0≤x∧x≤r.hands-1)=false:=decide_eq_false c1
    rw[if_neg c1,if_neg (by decide)] at hp
    subst hp
    simp -implicitDefEqProofs (maxSteps:=9^9) (disch:=omega) only[go_sem,simprocAttr,hidx,hw,c1']
  ·intro j hp
   have e0:e=0:=by
    rw[← hp]
    have:(List.range l.length).drop l.length=[]:=by simp
    rw[this];rfl
   have hRT:=hnil fun x hx=>((hnn e0).2.1 x hx).1
   subst e0
   have hml:(R.map ints1).length=R.length:=by simp
   have hde:decide (0<(R.length:Int))=decide (T≠[]):=by
    rw[decide_eq_decide,ne_eq,← hRT,← List.length_eq_zero_iff];omega
   simp -implicitDefEqProofs (maxSteps:=9^9) (disch:=omega) only[go_sem,simprocAttr]
   refine hdv _ _ ?_
   simp -implicitDefEqProofs (maxSteps:=9^9) (disch:=omega) only[go_sem,simprocAttr]
   refine ACalls.weaken (l':=[.agg [.int .i64 r.hands,.int .i64 r.skill,.int .i64 r.mn,.int .i64 r.mx,.list .no 2 (r.sets.map Sg.av),.list .no 6 (r.ents.map Tn.av)],.list .no 2 (D.map Rng.av),.list .no 1 (l.map (AV.int .i64)),.list .no 1 []]) ⟨⟨rfl,rfl,rfl,rfl,⟨rfl,.inl rfl,.inl rfl⟩,⟨rfl,.inl rfl,.inl rfl⟩,trivial⟩,⟨rfl,.inl rfl,.inl rfl⟩,⟨rfl,.inl rfl,.inl rfl⟩,⟨rfl,.inr rfl,.inl rfl⟩,trivial⟩ (hrt _ _ ?_)
   simp -implicitDefEqProofs (maxSteps:=9^9) (disch:=omega) only[go_sem,simprocAttr,hml,hde]
   by_cases hz:T=[]<;> simp[hz]
 ·rw[if_pos hro] at hE
  rw[hB,hE,decide_eq_false hro,Bool.false_and]
  generalize rosE r=q at *
  have hro':(q=0)=False:=eq_false hro
  simp only[Ros.av] at hc⊢
  simp -implicitDefEqProofs (maxSteps:=9^9) (disch:=omega) only[go_sem,simprocAttr]
  refine hc _ _ ?_
  simp -implicitDefEqProofs (maxSteps:=9^9) (disch:=omega) only[go_sem,simprocAttr,hro']
end Go.Proofs
