/- Texts of a proof: lemmas. -/
import Derived.Test.YtgbdndlmdklefaaGreatHK36
import Derived.Test.YtgbdndlmdklefaaGreatHK35
import Derived.Test.YtgbdndlmdklefaaGreatHK33
import Derived.Test.YtgbdndlmdklefaaGreatHK28
set_option linter.unusedSimpArgs false
set_option linter.unusedVariables false
set_option maxRecDepth 100000
set_option maxHeartbeats 40000000
namespace Go.Proofs
open Go Go.Mu Go.Ins
variable {S:MC Tryz.prog}
theorem Io(r:Ros)(hs:r.sets.length≤1000000)(he:r.ents.length≤1000000)(hf:∀x∈r.ents,x.ear.tones.length≤1000000∧x.ear.rds.length≤1000000):al S 37 [r.av,r.av] (.bool true):=by
 have hse:∀x∈r.ents,al S 101 [x.ear.av,x.ear.av] (.bool true):=fun x hx=>by
  have h1:=(hf x hx).1
  have h2:=(hf x hx).2
  have:=EK (S:=S) x.ear x.ear (by omega) (by omega) (by omega) (by omega)
  rwa [decide_eq_true rfl] at this
 refine PvE (Tryz.ah (S:=S) 115 Tryz.xj kG il) (.bool) Tryz.Rt Tryz.func37 rfl ?_
 intro σ
 obtain⟨hands,skill,mn,mx,sets,ents⟩:=r
 simp only[Ros.av] at hs he hf hse⊢
 simp -implicitDefEqProofs (maxSteps:=9^9) (disch:=omega) only[go_sem,simprocAttr]
 refine aj.bE (Tryz.ah (S:=S) 115 Tryz.xj kG il) sets.length (fun _=>True) (fun i=>[(6,.int .i64 i)]) (fun _ _=>σ++[.cells [.int .i64 hands,.int .i64 skill,.int .i64 mn,.int .i64 mx,.list .no 2 (sets.map Sg.av),.list .no 6 (ents.map Tn.av)],.cells [.int .i64 hands,.int .i64 skill,.int .i64 mn,.int .i64 mx,.list .no 2 (sets.map Sg.av),.list .no 6 (ents.map Tn.av)]]) [] (by kernel_rfl) (by simp) (by simp[upd,ins,aw,ae]) trivial ?_ ?_
 ·intro i j hi _ ih
  have hidx:idx (sets.map Sg.av) (i:Int)=some (Sg.av sets[i]):=bu hi
  have hwi:IntKind.i64.wrap ((i:Int)+1)=((i+1:Nat):Int):=by rw[wrap64 (by omega) (by omega)];rfl
  generalize sets[i]=s at *
  simp only[Sg.av] at hidx
  simp -implicitDefEqProofs (maxSteps:=9^9) (disch:=omega) only[go_sem,simprocAttr,hidx,hwi]
  exact(ih trivial []).ay rfl (by simp[upd,ins,aw,ae])
 ·intro j _
  simp -implicitDefEqProofs (maxSteps:=9^9) (disch:=omega) only[go_sem,simprocAttr]
  refine aj.bE (Tryz.ah (S:=S) 115 Tryz.xj kG il) ents.length (fun _=>True) (fun i=>[(7,.int .i64 i)]) (fun i j=>σ++(.cells [.int .i64 hands,.int .i64 skill,.int .i64 mn,.int .i64 mx,.list .no 2 (sets.map Sg.av),.list .no 6 (ents.map Tn.av)]:: .cells [.int .i64 hands,.int .i64 skill,.int .i64 mn,.int .i64 mx,.list .no 2 (sets.map Sg.av),.list .no 6 (ents.map Tn.av)]::j)) [] (by kernel_rfl) (by simp) (by simp[upd,ins,aw,ae]) trivial ?_ ?_
  ·intro i j hi _ ih
   have hidx:idx (ents.map Tn.av) (i:Int)=some (Tn.av ents[i]):=bu hi
   have hwi:IntKind.i64.wrap ((i:Int)+1)=((i+1:Nat):Int):=by rw[wrap64 (by omega) (by omega)];rfl
   have hsi:=hse _ (List.getElem_mem hi)
   generalize ents[i]=x at *
   obtain⟨day,hand,due,ear⟩:=x
   obtain⟨sl,ts,rs⟩:=ear
   simp only[Tn.av,Tn.cells,Ear.av] at hidx hsi
   simp -implicitDefEqProofs (maxSteps:=9^9) (disch:=omega) only[go_sem,simprocAttr,hidx]
   refine hsi _ _ ?_
   simp -implicitDefEqProofs (maxSteps:=9^9) (disch:=omega) only[go_sem,simprocAttr,hwi]
   exact(ih trivial (j++[.cells [.int .i64 day,.int .i64 hand,.int .i64 due,.int .i64 sl,.list .no 2 (ts.map Rng.av),.list .no 6 (rs.map Rd.av)],.cells [.int .i64 day,.int .i64 hand,.int .i64 due,.int .i64 sl,.list .no 2 (ts.map Rng.av),.list .no 6 (rs.map Rd.av)]])).ay (by simp) (by simp[upd,ins,aw,ae])
  ·intro j _
   simp -implicitDefEqProofs (maxSteps:=9^9) (disch:=omega) only[go_sem,simprocAttr]
def gY(e:Ear):Bool:=decide (20<e.tones.length)||decide (20<e.rds.length)
theorem x9(e:Ear)(h1:e.tones.length≤4294967296)(h2:e.rds.length≤4294967296):al S 28 [e.av] (.bool (gY e)):=by
 refine PvE (Tryz.ah (S:=S) 13 (fun _=>([],[])) fs0 aD) (.bool) Tryz.Qm Tryz.func28 rfl ?_
 intro σ
 obtain⟨sl,ts,rs⟩:=e
 simp only[Ear.av,gY] at h1 h2⊢
 by_cases c1:20<ts.length
 ·have c1':(20<(ts.length:Int))=True:=eq_true (by omega)
  simp -implicitDefEqProofs (maxSteps:=9^9) (disch:=omega) only[go_sem,simprocAttr,c1']
 ·have c1':(20<(ts.length:Int))=False:=eq_false (by omega)
  simp -implicitDefEqProofs (maxSteps:=9^9) (disch:=omega) only[go_sem,simprocAttr,c1']
  simp[c1];omega
def pY(r:Ros):Bool:=(r.ents.take 20).any (fun x=>gY x.ear)||(decide (20<r.sets.length)||decide (20<r.ents.length))
theorem F3(r:Ros)(hs:r.sets.length≤4294967296)(he:r.ents.length≤4294967296)(hf:∀x∈r.ents,x.ear.tones.length≤4294967296∧x.ear.rds.length≤4294967296):al S 27 [r.av] (.bool (pY r)):=by
 have hld:=fun x hx=>x9 (S:=S) (Tn.ear x) (hf x hx).1 (hf x hx).2
 refine PvE (Tryz.ah (S:=S) 32 (fun _=>([],[])) fs0 aD) (.bool) Tryz.Qv Tryz.func27 rfl ?_
 intro σ
 obtain⟨hands,skill,mn,mx,sets,ents⟩:=r
 simp only[Ros.av,pY] at hs he hf hld⊢
 simp -implicitDefEqProofs (maxSteps:=9^9) (disch:=omega) only[go_sem,simprocAttr]
 have hML:(ents.take 20).length≤20:=by rw[List.length_take];omega
 have hMl:(ents.take 20).length=min 20 ents.length:=List.length_take
 refine aj.bE (Tryz.ah (S:=S) 32 (fun _=>([],[])) fs0 aD) (ents.take 20).length (fun i=>((ents.take 20).take i).any (fun x=>gY x.ear)=false) (fun i=>[(3,.int .i64 i)]) (fun _ j=>σ++(.cells [.int .i64 hands,.int .i64 skill,.int .i64 mn,.int .i64 mx,.list .no 2 (sets.map Sg.av),.list .no 6 (ents.map Tn.av)]::j)) [] (by kernel_rfl) (by simp) (by simp[upd,ins,aw,ae]) (by simp) ?_ ?_
 ·intro i j hi hp ih
  have hie:i<ents.length:=by omega
  have hidx:idx (ents.map Tn.av) (i:Int)=some (Tn.av ents[i]):=bu hie
  have hwi:IntKind.i64.wrap ((i:Int)+1)=((i+1:Nat):Int):=by rw[wrap64 (by omega) (by omega)];rfl
  have hli:=hld _ (List.getElem_mem hie)
  have hil:((i:Int)<ents.length)=True:=eq_true (by omega)
  have hi20:((i:Int)<20)=True:=eq_true (by omega)
  have hst:((ents.take 20).take (i+1)).any (fun x=>gY x.ear)=(((ents.take 20).take i).any (fun x=>gY x.ear)||gY ents[i].ear):=by
   rw[List.take_succ_eq_append_getElem hi,List.any_append];simp
  have hany:gY ents[i].ear=true→(ents.take 20).any (fun x=>gY x.ear)=true:=fun h=>List.any_eq_true.2 ⟨ents[i],by rw[← List.getElem_take (h:=hi)];exact List.getElem_mem hi,h⟩
  rw[hst,hp,Bool.false_or] at ih
  clear hst
  generalize ents[i]=x at *
  obtain⟨day,hand,due,ear⟩:=x
  obtain⟨sl,ts,rs⟩:=ear
  simp only[Tn.av,Tn.cells,Ear.av] at hidx hli hany ih
  simp -implicitDefEqProofs (maxSteps:=9^9) (disch:=omega) only[go_sem,simprocAttr,hidx,hil,hi20]
  refine hli _ _ ?_
  generalize gY ⟨sl,ts,rs⟩= B at *
  cases B
  ·simp -implicitDefEqProofs (maxSteps:=9^9) (disch:=omega) only[go_sem,simprocAttr,hwi]
   exact(ih rfl j).ay rfl (by simp[upd,ins,aw,ae])
  ·simp -implicitDefEqProofs (maxSteps:=9^9) (disch:=omega) only[go_sem,simprocAttr]
   rw[hany rfl];rfl
 ·intro j hp
  rw[List.take_length] at hp
  rw[hp,Bool.false_or]
  by_cases c0:ents.length≤20
  ·have hl:((ents.take 20).length:Int)=ents.length:=by omega
   rw[hl]
   by_cases c1:20<sets.length
   ·have c1':(20<(sets.length:Int))=True:=eq_true (by omega)
    simp -implicitDefEqProofs (maxSteps:=9^9) (disch:=omega) only[go_sem,simprocAttr,c1']
   ·have c1':(20<(sets.length:Int))=False:=eq_false (by omega)
    have c2':(20<(ents.length:Int))=False:=eq_false (by omega)
    simp -implicitDefEqProofs (maxSteps:=9^9) (disch:=omega) only[go_sem,simprocAttr,c1',c2']
  ·have hl:((ents.take 20).length:Int)=20:=by omega
   rw[hl]
   have c2':(20<(ents.length:Int))=True:=eq_true (by omega)
   by_cases c1:20<sets.length
   ·have c1':(20<(sets.length:Int))=True:=eq_true (by omega)
    simp -implicitDefEqProofs (maxSteps:=9^9) (disch:=omega) only[go_sem,simprocAttr,c1',c2']
   ·have c1':(20<(sets.length:Int))=False:=eq_false (by omega)
    simp -implicitDefEqProofs (maxSteps:=9^9) (disch:=omega) only[go_sem,simprocAttr,c1',c2']
end Go.Proofs
namespace Go.Proofs
open Go Go.Mu Go.Ins
theorem _root_.Go.Mu.ao.QG{E:Env}(n:Nat)(hE:cm E){f:FuncId}{fn:Func}{c:Code}{args:List AV}{σ:List aa}{Q:AV→List aa→Prop}(kp:Nat→Bool)(hf:E.P.funcs[f]? = some fn)(hb:fn.body=some c)(hN:fn.ntmps=E.N)(hA:args.length≤E.N)
  (hC:aW E.P f) (hO:dG E [.code c]=true)
  (h:ev E none n [.code c] ⟨kp,[],number 0 args⟩ σ (dg E fn.results.toList Q)):ao E.S f args σ Q:=by
 refine ao.of_run hE kp hf hb hN hA hC ((aR hE hO h).mono fun j fr σ' ⟨h1,h2⟩=>⟨h1,?_⟩)
 cases hr:ig E fr σ' fn.results.toList with
 | none=>rw[hr] at h2;exact h2.elim
 | some vs=>rw[hr] at h2;exact⟨vs,rfl,h2⟩
theorem FG(r:Ros)(x:Tn)(l:List Int)(hl:l.length≤4294967296)(σ:List aa)(Q:AV→List aa→Prop)(h:∀made rates by_ j,kZ 3 4 3 made rates by_→Q (.list .no 6 ([r,made,made.snoc x].map Ros.av)) (σ++j)) :
  ao aV 29 [r.av,x.av,.list .no 1 (l.map (.int .i64))] σ Q:=by
 refine ao.wkW ?_
 refine ao.QG 8 (E:=Tryz.E (S:=aV) 28 (fun _=>([],[])) fs0) (Tryz.ah (S:=aV) 28 (fun _=>([],[])) fs0 aD) Tryz.Rh Tryz.func29 rfl (by kernel_rfl) (by simp[Tryz.E]) (aW.of Tryz.func29 (by kernel_rfl) (by kernel_rfl)) (by kernel_rfl) ?_
 obtain⟨hands,skill,mn,mx,sets,ents⟩:=r
 obtain⟨day,hand,due,ear⟩:=x
 obtain⟨sl,ts,rs⟩:=ear
 simp only[Ros.av,Tn.av,Tn.cells]
 simp -implicitDefEqProofs (maxSteps:=9^9) (disch:=omega) only[go_sem,simprocAttr]
 refine Jv l .no hl _ _ fun s1 j1=>?_
 simp -implicitDefEqProofs (maxSteps:=9^9) (disch:=omega) only[go_sem,simprocAttr]
 refine Dy (σ.length+2) 3 4 3 (by omega) (by omega) (by omega) _ ⟨s1,by rw[aZ];rfl⟩ _ fun s2 made rates by_ j2 hT=>?_
 have hfit:=hT.fit (by omega)
 have hs2:=hT.sl
 have hel:=hT.el
 replace h:=fun j=>h made rates by_ j hT
 clear hT
 unfold pw
 rw[fI]
 simp only[List.set_cons_succ,List.set_cons_zero,List.append_assoc,List.cons_append]
 simp only[Ros.av,l6,ar]
 simp -implicitDefEqProofs (maxSteps:=9^9) (disch:=omega) only[go_sem,simprocAttr]
 obtain⟨σ2,hσ2⟩:∃σ2,σ2=σ++(aa.cells [.int .i64 hands,.int .i64 skill,.int .i64 mn,.int .i64 mx,.list .no 2 (sets.map Sg.av),.list .no 6 (ents.map Tn.av)]::aa.cells [.int .i64 day,.int .i64 hand,.int .i64 due,.int .i64 sl,.list .no 2 (ts.map Rng.av),.list .no 6 (rs.map Rd.av)]::aa.cells [.int .u64 s2]::(j1++(j2++[aa.cells [.int .i64 made.hands,.int .i64 made.skill,.int .i64 made.mn,.int .i64 made.mx,.list .no 2 (made.sets.map Sg.av),.list .no 6 (made.ents.map Tn.av)],aa.cells [.list .no 1 (rates.map (.int .i64)),.list .no 1 (by_.map (.int .i64))]]))):=⟨_,rfl⟩
 obtain⟨J,hJ⟩:∃J,σ2=σ++J:=⟨_,hσ2⟩
 obtain⟨q7,hq7⟩:∃q7,q7=σ.length+(j1.length+j2.length+1+1+1):=⟨_,rfl⟩
 have hb0:∀k,ai (σ2++k) σ.length=some (aa.cells [.int .i64 hands,.int .i64 skill,.int .i64 mn,.int .i64 mx,.list .no 2 (sets.map Sg.av),.list .no 6 (ents.map Tn.av)]):=fun k=>by rw[hσ2,List.append_assoc,a8];rfl
 have hb1:∀k,ai (σ2++k) (σ.length+1)=some (aa.cells [.int .i64 day,.int .i64 hand,.int .i64 due,.int .i64 sl,.list .no 2 (ts.map Rng.av),.list .no 6 (rs.map Rd.av)]):=fun k=>by rw[hσ2,List.append_assoc,aZ];rfl
 have hb7:∀k,ai (σ2++k) q7=some (aa.cells [.int .i64 made.hands,.int .i64 made.skill,.int .i64 made.mn,.int .i64 made.mx,.list .no 2 (made.sets.map Sg.av),.list .no 6 (made.ents.map Tn.av)]):=fun k=>by
  rw[hσ2,hq7,List.append_assoc,aZ]
  simp only[List.cons_append,List.append_assoc,List.getElem?_cons_succ]
  rw[List.getElem?_append_right (by omega),Nat.add_sub_cancel_left,List.getElem?_append_right (Nat.le_refl _),Nat.sub_self]
  rfl
 rw[← hσ2,← hq7]
 clear hσ2 hq7
 refine pW made (by omega) (by omega) hfit.ear _ _ fun a1 a2 a3 j3=>?_
 simp only[Ros.avv]
 simp -implicitDefEqProofs (maxSteps:=9^9) (disch:=omega) only[go_sem,simprocAttr,hb0,hb1,hb7]
 have hsetl:∀(j:List aa) (c c':aa),(j++[c]).set j.length c'=j++[c']:=fun j c c'=>by simp[List.set_append]
 change aj _ _ _ _ _ _
 refine aj.N7 (σ2.length+(j3.length+1+1+1+1)) 5 (r:=σ2.length+3) (n:=made.ents.length+1) (sz:=6) (xs:=made.ents.map Tn.av++[.agg [.int .i64 day,.int .i64 hand,.int .i64 due,.int .i64 sl,.list .no 2 (ts.map Rng.av),.list .no 6 (rs.map Rd.av)]]) (by rw[aZ];simp;rfl) rfl (by rw[aZ];rfl) (by simp) ?_
 rw[fI,fI]
 simp only[List.set_cons_succ,List.set_cons_zero,hsetl]
 refine aR (Tryz.ah (S:=aV) 28 (fun _=>([],[])) fs0 aD) (n:=1000) (by kernel_rfl) ?_
 simp -implicitDefEqProofs (maxSteps:=9^9) (disch:=omega) only[go_sem,simprocAttr,hb0,hb1,hb7]
 refine⟨_,gp (w:= .list .no 6 ([⟨hands,skill,mn,mx,sets,ents⟩,made,made.snoc ⟨day,hand,due,⟨sl,ts,rs⟩⟩].map Ros.av)) ⟨by simp[Ros.av,Ros.snoc,Tn.av,Tn.cells],.inl rfl,.inl rfl⟩,?_⟩
 rw[hJ,List.append_assoc]
 exact h _
end Go.Proofs
namespace Go.Proofs
open Go Go.Mu Go.Ins
variable {S:MC Tryz.prog}
end Go.Proofs
namespace Go.Proofs
open Go Go.Mu Go.Ins
end Go.Proofs
namespace Go.Proofs
open Go Go.Mu Go.Ins
variable {S:MC Tryz.prog}
theorem HC{l:List (List Int)}{h:Int}{i:Nat}(hi:i<l.length):ec (l.take (i+1)) h=ec (l.take i) h+if l[i].contains h then 1 else 0:=by
 unfold ec
 rw[List.take_succ_eq_append_getElem hi,List.filter_append,List.length_append]
 cases hc:l[i].contains h
 ·simp only[List.filter_cons,hc,List.filter_nil,Bool.false_eq_true,if_false,List.length_nil]
 ·simp only[List.filter_cons,hc,List.filter_nil,if_true,List.length_cons,List.length_nil]
end Go.Proofs
namespace Go.Proofs
open Go Go.Mu Go.Ins
theorem Dt(r:Ros)(hs:r.sets.length≤1000)(hn:r.ents.length≤1000)(he:∀x∈r.ents,x.ear.tones.length≤1000000∧x.ear.rds.length≤1000000):al aV 30 [r.av] r.av:=by
 intro σ Q hq
 have hQ:Q r.av σ:=hq
 refine ao.clean ?_
 refine ao.P0 ?_
 refine pW r hs hn he σ _ fun a b c j=>?_
 refine⟨_,5,σ.length+3,6,r.ents.map Tn.av,rfl,?_,by rw[aZ];rfl,?_⟩
 ·simp
 ·rw[fI]
  exact⟨r.av,_,rfl,dI.refl _,r.plain _,hQ⟩
structure Ros.Few(r:Ros):Prop where
 sets:r.sets.length≤20
 ents:r.ents.length≤20
 ear:∀x∈r.ents,x.ear.tones.length≤20∧x.ear.rds.length≤20
theorem Ros.Few.fit{r:Ros}(h:r.Few):r.Fit:=⟨by have:=h.sets;omega,by have:=h.ents;omega,fun x hx=>by have:=h.ear x hx;omega⟩
theorem wH{e:Ear}(h:gY e=false):e.tones.length≤20∧e.rds.length≤20:=by
 unfold gY at h
 simp at h
 omega
theorem CD{r:Ros}(h:pY r=false):r.Few:=by
 unfold pY at h
 simp only[Bool.or_eq_false_iff,decide_eq_false_iff_not] at h
 obtain⟨h1,h2,h3⟩:=h
 refine⟨by omega,by omega,fun x hx=>wH ?_⟩
 rw[List.take_of_length_le (by omega)] at h1
 have:=List.any_eq_false.1 h1 x hx
 simpa using this
theorem kZ.few{H E w:Int}{r:Ros}{rates by_:List Int}(h:kZ H E w r rates by_)(hE:E≤5):r.Few:=by
 have h1:=h.sl
 have h2:=h.el
 refine⟨by omega,by omega,fun x hx=>?_⟩
 obtain⟨b,hb⟩:=h.L4 hx
 obtain⟨t,lo,hi,rds,_,_,g3,g4⟩:=hb.ear
 rw[g4]
 rcases g3 with rfl | rfl<;> simp
theorem Ros.Few.snoc{r:Ros}{x:Tn}(h:r.Few)(he:r.ents.length≤19)(hx:x.ear.tones.length≤20∧x.ear.rds.length≤20):(r.snoc x).Few:=by
 refine⟨h.sets,by show(r.ents++[x]).length≤20;simp;omega,fun y hy=>?_⟩
 rcases List.mem_append.1 (show y∈r.ents++[x] from hy) with hy | hy
 ·exact h.ear y hy
 ·simp at hy;subst hy;exact hx
end Go.Proofs
namespace Go.Proofs
open Go Go.Mu Go.Ins
variable {S:MC Tryz.prog}
theorem JA(r:Ros)(hl:r.sets.length≤4)(h d:Int)(hd:0≤d∧d≤60):al S 100 [r.av,.int .i64 h,.int .i64 d] (.int .i64 (cn r.sets h d)):=by
 refine PvE (Tryz.ah (S:=S) 43 (fun _=>([],[])) fE dJ) (.int) Tryz.M9 Tryz.func100 rfl ?_
 intro σ
 obtain⟨hands,skill,mn,mx,sets,ents⟩:=r
 simp only[Ros.av] at hl⊢
 simp -implicitDefEqProofs (maxSteps:=9^9) (disch:=omega) only[go_sem,simprocAttr]
 refine aj.bE (Tryz.ah (S:=S) 43 (fun _=>([],[])) fE dJ) sets.length (fun _=>True) (fun i=>[(7,.int .i64 ((sets.take i).foldl (dt h d) 0)),(8,.int .i64 i)]) (fun _ _=>σ++[.cells [.int .i64 hands,.int .i64 skill,.int .i64 mn,.int .i64 mx,.list .no 2 (sets.map Sg.av),.list .no 6 (ents.map Tn.av)]]) [] (by kernel_rfl) (by simp) (by simp[upd,ins,aw,ae]) trivial ?_ ?_
 ·intro i j hi _ ih
  rw[jo hi] at ih
  have hidx:idx (sets.map Sg.av) (i:Int)=some (Sg.av sets[i]):=bu hi
  have hwi:IntKind.i64.wrap ((i:Int)+1)=((i+1:Nat):Int):=by rw[wrap64 (by omega) (by omega)];rfl
  obtain⟨f1,f2⟩:=@mT h d (sets.take i) 0 (Int.le_refl 0) hd.1
  generalize (sets.take i).foldl (dt h d) 0=m at *
  generalize sets[i]=s at *
  simp only[Sg.av] at hidx
  by_cases p1:s.hand=h
  ·by_cases p2:s.day≤d
   ·have p1':(s.hand=h)=True:=eq_true p1
    have p2':(s.day≤d)=True:=eq_true p2
    simp -implicitDefEqProofs (maxSteps:=9^9) (disch:=omega) only[go_sem,simprocAttr,hidx,p1',p2',hwi]
    exact(ih trivial []).ay rfl (by simp[upd,ins,aw,ae,dt,p1,p2])
   ·have p1':(s.hand=h)=True:=eq_true p1
    have p2':(s.day≤d)=False:=eq_false p2
    simp -implicitDefEqProofs (maxSteps:=9^9) (disch:=omega) only[go_sem,simprocAttr,hidx,p1',p2',hwi]
    exact(ih trivial []).ay rfl (by simp[upd,ins,aw,ae,dt,p1,p2])
  ·have p1':(s.hand=h)=False:=eq_false p1
   simp -implicitDefEqProofs (maxSteps:=9^9) (disch:=omega) only[go_sem,simprocAttr,hidx,p1',hwi]
   exact(ih trivial []).ay rfl (by simp[upd,ins,aw,ae,dt,p1])
 ·intro j _
  rw[List.take_length]
  simp -implicitDefEqProofs (maxSteps:=9^9) (disch:=omega) only[go_sem,simprocAttr]
  rfl
theorem QV(r:Ros)(hl:r.sets.length≤4)(h d n:Int)(hd:0≤d∧d≤60)(hn: -5≤n∧n≤5):al S 145 [r.av,.int .i64 h,.int .i64 d,.int .i64 n] (.int .i64 (n*(d-cn r.sets h d))):=by
 have hs:=JA (S:=S) r hl h d hd
 have hf:=@jU r.sets h d hd.1
 have hb: -300≤n*(d-cn r.sets h d)∧n*(d-cn r.sets h d)≤300:=by
  generalize cn r.sets h d=a at *
  have h3:0≤d-a∧d-a≤60:=by omega
  generalize d-a=b at *
  rcases(by omega:n= -5∨n= -4∨n= -3∨n= -2∨n= -1∨n=0∨n=1∨n=2∨n=3∨n=4∨n=5) with rfl | rfl | rfl | rfl | rfl | rfl | rfl | rfl | rfl | rfl | rfl<;> omega
 refine PvE (Tryz.ah (S:=S) 17 (fun _=>([],[])) fE dJ) (.int) Tryz.ML Tryz.func145 rfl ?_
 intro σ
 obtain⟨hands,skill,mn,mx,sets,ents⟩:=r
 simp only[Ros.av] at hs hf hb⊢
 generalize cn sets h d=a at *
 have hw1:IntKind.i64.wrap (d-a)=d-a:=wrap64 (by omega) (by omega)
 have hw2:IntKind.i64.wrap (n*(d-a))=n*(d-a):=wrap64 (by omega) (by omega)
 clear hb
 simp -implicitDefEqProofs (maxSteps:=9^9) (disch:=omega) only[go_sem,simprocAttr]
 refine hs _ _ ?_
 simp -implicitDefEqProofs (maxSteps:=9^9) (disch:=omega) only[go_sem,simprocAttr,hw1,hw2]
def eP(r:Ros)(t:Tn)(x:Rng)(h n:Int):Bool:=decide (t.hand<0∨t.hand=h)&&decide (x.lo-r.skill≤n*(t.day-cn r.sets h t.day)∧n*(t.day-cn r.sets h t.day)≤x.hi+r.skill)
theorem LA(r:Ros)(hl:r.sets.length≤4)(hsk:0≤r.skill∧r.skill≤9)(t:Tn)(hd:0≤t.day∧t.day≤60)(x:Rng)(hx:(-2000000≤x.lo∧x.lo≤2000000)∧ -2000000≤x.hi∧x.hi≤2000000)(h n:Int)(hn: -5≤n∧n≤5) :
  al S 113 [r.av,t.av,x.av,.int .i64 h,.int .i64 n] (.bool (eP r t x h n)):=by
 have ho:=QV (S:=S) r hl h t.day n hd hn
 refine PvE (Tryz.ah (S:=S) 41 (fun _=>([],[])) fE dJ) (.bool) Tryz.MW Tryz.func113 rfl ?_
 intro σ
 unfold eP
 obtain⟨hands,skill,mn,mx,sets,ents⟩:=r
 obtain⟨day,hand,due,ear⟩:=t
 obtain⟨sl,ts,rs⟩:=ear
 simp only[Ros.av,Tn.av,Tn.cells,Rng.av] at ho hsk hd⊢
 generalize n*(day-cn sets h day)=o at *
 have hw1:IntKind.i64.wrap (x.lo-skill)=x.lo-skill:=wrap64 (by omega) (by omega)
 have hw2:IntKind.i64.wrap (x.hi+skill)=x.hi+skill:=wrap64 (by omega) (by omega)
 clear hx hl
 simp -implicitDefEqProofs (maxSteps:=9^9) (disch:=omega) only[go_sem,simprocAttr]
 refine ho _ _ ?_
 by_cases c1:hand<0
 ·have c1':(hand<0)=True:=eq_true c1
  simp -implicitDefEqProofs (maxSteps:=9^9) (disch:=omega) only[go_sem,simprocAttr,c1',hw1,hw2]
  simp[c1]
  exact fun h1 h2=>⟨h1,h2⟩
 ·have c1':(hand<0)=False:=eq_false c1
  by_cases c2:hand=h
  ·have c2':(hand=h)=True:=eq_true c2
   simp -implicitDefEqProofs (maxSteps:=9^9) (disch:=omega) only[go_sem,simprocAttr,c1',c2',hw1,hw2]
   simp[c2]
   exact fun h1 h2=>⟨h1,h2⟩
  ·have c2':(hand=h)=False:=eq_false c2
   simp -implicitDefEqProofs (maxSteps:=9^9) (disch:=omega) only[go_sem,simprocAttr,c1',c2',hw1,hw2]
/-! Rosters and entries, read out of values. -/
def ud:AV→Option Sg
 | .agg [.int .i64 h,.int .i64 d]=>some ⟨h,d⟩
 | _=>none
theorem GZ(a:AV)(x:Sg)(h:ud a=some x):a=x.av:=by
 unfold ud at h;split at h
 ·simp at h;subst h;rfl
 ·cases h
theorem LX(x:Sg):ud x.av=some x:=rfl
def nf:AV→Option Tn
 | .agg [.int .i64 d,.int .i64 h,.int .i64 u,.int .i64 s,.list .no 2 xs,.list .no 6 ys]=>(fT gj xs).bind fun x=>(fT kl ys).bind fun y=>some ⟨d,h,u,⟨s,x,y⟩⟩
 | _=>none
theorem EH(a:AV)(x:Tn)(h:nf a=some x):a=x.av:=by
 unfold nf at h;split at h
 ·obtain⟨x1,h1,h⟩:=Option.bind_eq_some_iff.1 h
  obtain⟨x2,h2,h⟩:=Option.bind_eq_some_iff.1 h
  simp at h;subst h
  rw[jZ jE h1,jZ mf h2];rfl
 ·cases h
theorem FK(x:Tn):nf x.av=some x:=by
 obtain⟨d,h,u,s,ts,rs⟩:=x
 simp only[Tn.av,Tn.cells,nf,lu o8,lu lr,Option.bind_some]
def tP:AV→Option Tn
 | .agg [.int .i64 d,.int .i64 h,.int .i64 u,.int .i64 s,a,b]=>(dA 2 gj a).bind fun x=>(dA 6 kl b).bind fun y=>some ⟨d,h,u,⟨s,x,y⟩⟩
 | _=>none
theorem GQ(a:AV)(x:Tn)(h:tP a=some x):wk a x.av:=by
 unfold tP at h;split at h
 ·obtain⟨x1,h1,h⟩:=Option.bind_eq_some_iff.1 h
  obtain⟨x2,h2,h⟩:=Option.bind_eq_some_iff.1 h
  simp at h;subst h
  exact⟨rfl,rfl,rfl,rfl,iL jE h1,iL mf h2,trivial⟩
 ·cases h
def qk:AV→Option Ros
 | .agg [.int .i64 h,.int .i64 s,.int .i64 m,.int .i64 n,a,b]=>(dA 2 ud a).bind fun x=>(dA 6 nf b).bind fun y=>some ⟨h,s,m,n,x,y⟩
 | _=>none
theorem Cn(a:AV)(x:Ros)(h:qk a=some x):wk a x.av:=by
 unfold qk at h;split at h
 ·obtain⟨x1,h1,h⟩:=Option.bind_eq_some_iff.1 h
  obtain⟨x2,h2,h⟩:=Option.bind_eq_some_iff.1 h
  simp at h;subst h
  exact⟨rfl,rfl,rfl,rfl,iL GZ h1,iL EH h2,trivial⟩
 ·cases h
def tTn:Ty Tn:=⟨tP,Tn.av,fun{a x} h=>GQ a x h⟩
def Ro:Ty Ros:=⟨qk,Ros.av,fun{a x} h=>Cn a x h⟩
theorem PL{a:AV}:tTn.dec a=tP a:=rfl
theorem Ks{a:AV}:Ro.dec a=qk a:=rfl
theorem OV{t:Tok}{l:List Sg}:dA 2 ud (.list t 2 (l.map Sg.av))=some l:=iR LX
theorem OC{t:Tok}{l:List Tn}:dA 6 nf (.list t 6 (l.map Tn.av))=some l:=iR FK
def xz{α β γ δ ε:Type}(A:Ty α)(B:Ty β)(C:Ty γ)(D:Ty δ)(E:Ty ε)(f:α→β→γ→δ→ε→Option AV):List AV→Option AV
 | [a,b,c,d,e]=>(A.dec a).bind fun x=>(B.dec b).bind fun y=>(C.dec c).bind fun z=>(D.dec d).bind fun u=>(E.dec e).bind fun v=>f x y z u v
 | _=>none
theorem Jh{α β γ δ ε:Type}{P:Program}{S:MC P}{n:FuncId}{A:Ty α}{B:Ty β}{C:Ty γ}{D:Ty δ}{E:Ty ε}{f:α→β→γ→δ→ε→Option AV}(h:∀x y z u v w,f x y z u v=some w→al S n [A.av x,B.av y,C.av z,D.av u,E.av v] w):∀xs w,xz A B C D E f xs=some w→al S n xs w:=by
 intro xs w e
 unfold xz at e
 split at e
 ·obtain⟨x,h1,e⟩:=Option.bind_eq_some_iff.1 e
  obtain⟨y,h2,e⟩:=Option.bind_eq_some_iff.1 e
  obtain⟨z,h3,e⟩:=Option.bind_eq_some_iff.1 e
  obtain⟨u,h4,e⟩:=Option.bind_eq_some_iff.1 e
  obtain⟨v,h5,e⟩:=Option.bind_eq_some_iff.1 e
  exact al.weaken (l':=[A.av x,B.av y,C.av z,D.av u,E.av v]) ⟨A.inv h1,B.inv h2,C.inv h3,D.inv h4,E.inv h5,trivial⟩ (h x y z u v w e)
 ·cases e
attribute [go_sem] PL Ks tP qk OV OC xz
def sZ(r:Ros)(t:Tn)(x:Rng)(n:Int):Prop:=(r.sets.length≤4∧(0≤r.skill∧r.skill≤9))∧(0≤t.day∧t.day≤60)∧((-2000000≤x.lo∧x.lo≤2000000)∧ -2000000≤x.hi∧x.hi≤2000000)∧ -5≤n∧n≤5
instance (r:Ros)(t:Tn)(x:Rng)(n:Int):Decidable (sZ r t x n):=by unfold sZ;infer_instance
def yZ:=xz Ro tTn J0 tI tI fun r t x h n=>if sZ r t x n then some (.bool (eP r t x h n)) else none
theorem Pk:∀xs v,yZ xs=some v→al S 113 xs v:=
 Jh fun r t x h n v e=>by
  have e:=b7 e
  rw[← e.2]
  exact LA r e.1.1.1 e.1.1.2 t e.1.2.1 x e.1.2.2.1 h n e.1.2.2.2
theorem GA(l:List Int)(hl:l.length≤1000000)(n:Int):al S 153 [ar l,.int .i64 n] (.bool (l.contains n)):=by
 refine PvE (Tryz.ah (S:=S) 18 (fun _=>([],[])) fs0 aD) (.bool) Tryz.Nl Tryz.func153 rfl ?_
 intro σ
 simp only[ar]
 simp -implicitDefEqProofs (maxSteps:=9^9) (disch:=omega) only[go_sem,simprocAttr]
 refine aj.bE (Tryz.ah (S:=S) 18 (fun _=>([],[])) fs0 aD) l.length (fun i=>(l.take i).contains n=false) (fun i=>[(5,.int .i64 i)]) (fun _ _=>σ) [] (by kernel_rfl) rfl (by simp[upd,ins,aw,ae]) (by simp) ?_ ?_
 ·intro i j hi hp ih
  have hidx:idx (l.map (AV.int .i64)) (i:Int)=some (.int .i64 l[i]):=bu hi
  have hwi:IntKind.i64.wrap ((i:Int)+1)=((i+1:Nat):Int):=by rw[wrap64 (by omega) (by omega)];rfl
  have hst:(l.take (i+1)).contains n=((l.take i).contains n||(n==l[i])):=by
   rw[List.take_succ_eq_append_getElem hi,Bool.eq_iff_iff,Bool.or_eq_true,List.contains_iff_mem,List.contains_iff_mem,beq_iff_eq,List.mem_append,List.mem_singleton]
  rw[hst,hp,Bool.false_or] at ih
  have hmem:l[i]=n→l.contains n=true:=fun e=>by rw[← e];simp
  generalize l[i]=m at *
  by_cases c:m=n
  ·have c':(m=n)=True:=eq_true c
   simp -implicitDefEqProofs (maxSteps:=9^9) (disch:=omega) only[go_sem,simprocAttr,hidx,c']
   simpa using hmem c
  ·have c':(m=n)=False:=eq_false c
   simp -implicitDefEqProofs (maxSteps:=9^9) (disch:=omega) only[go_sem,simprocAttr,hidx,c',hwi]
   exact(ih (by simpa using fun e=>c e.symm) []).ay rfl (by simp[upd,ins,aw,ae])
 ·intro j hp
  rw[List.take_length] at hp
  rw[hp]
  simp -implicitDefEqProofs (maxSteps:=9^9) (disch:=omega) only[go_sem,simprocAttr]
def fC(f:FuncId)(xs:List AV):Option AV:=if f=113 then yZ xs else fE f xs
theorem dH{S:MC Tryz.prog}:∀f xs v,fC f xs=some v→al S f xs v:=by
 intro f xs v h
 unfold fC at h
 split at h
 ·rename_i e;subst e;exact Pk _ _ h
 exact dJ _ _ _ h
attribute [go_sem] fC yZ
def mi(r:Ros)(t:Tn)(d:Rng)(x:List Int):Bool:=(List.range r.hands.toNat).any fun(h:Nat)=>eP r t d h (tg x h)
def mg(r:Ros)(D:List Rng)(x:List Int):Bool:=(List.range r.ents.length).all fun i=>mi r (r.ents.getD i default) (D.getD i default) x
theorem yw(r:Ros)(hr:r.Head)(hdy:∀t∈r.ents,0≤t.day∧t.day≤60)(D:List Rng)(hD:D.length=r.ents.length)(hDb:∀d∈D,(-2000000≤d.lo∧d.lo≤2000000)∧ -2000000≤d.hi∧d.hi≤2000000)(x:List Int)(hx:(x.length:Int)=r.hands)(hxb:∀n∈x, -5≤n∧n≤5) :
  al S 152 [r.av,.list .no 2 (D.map Rng.av),ar x] (.bool (mg r D x)):=by
 refine PvE (Tryz.ah (S:=S) 44 Tryz.uw fC dH) (.bool) Tryz.MZ Tryz.func152 rfl ?_
 intro σ
 have hh:=hr.hands
 have hsk:=hr.skill
 have hsl:=hr.setl
 have hel:=hr.entl
 obtain⟨hands,skill,mn,mx,sets,ents⟩:=r
 simp only[Ros.av,ar] at hdy hD hx hh hsk hsl hel⊢
 simp -implicitDefEqProofs (maxSteps:=9^9) (disch:=omega) only[go_sem,simprocAttr]
 refine aj.bE (Tryz.ah (S:=S) 44 Tryz.uw fC dH) ents.length (fun i=>((List.range i).all fun i=>mi ⟨hands,skill,mn,mx,sets,ents⟩ (ents.getD i default) (D.getD i default) x)=true) (fun i=>[(7,.int .i64 i)]) (fun _ _=>σ++[.cells [.int .i64 hands,.int .i64 skill,.int .i64 mn,.int .i64 mx,.list .no 2 (sets.map Sg.av),.list .no 6 (ents.map Tn.av)]]) [] (by kernel_rfl) (by simp) (by simp[upd,ins,aw,ae]) (by simp) ?_ ?_
 ·intro i j hi hp ih
  have hidx:idx (ents.map Tn.av) (i:Int)=some (Tn.av ents[i]):=bu hi
  have hidd:idx (D.map Rng.av) (i:Int)=some (Rng.av (D[i]'(by omega))):=bu (by omega)
  have hwi:IntKind.i64.wrap ((i:Int)+1)=((i+1:Nat):Int):=by rw[wrap64 (by omega) (by omega)];rfl
  have hti:=hdy _ (List.getElem_mem hi)
  have hdi:=hDb _ (List.getElem_mem (l:=D) (n:=i) (by omega))
  have hge:ents.getD i default=ents[i]:=by simp[List.getD,List.getElem?_eq_getElem hi]
  have hgd:D.getD i default=D[i]'(by omega):=by simp[List.getD,List.getElem?_eq_getElem (show i<D.length by omega)]
  have hst:((List.range (i+1)).all fun i=>mi ⟨hands,skill,mn,mx,sets,ents⟩ (ents.getD i default) (D.getD i default) x)=mi ⟨hands,skill,mn,mx,sets,ents⟩ (ents.getD i default) (D.getD i default) x:=by
   rw[List.range_succ,List.all_append,hp];simp
  have hall:mi ⟨hands,skill,mn,mx,sets,ents⟩ (ents.getD i default) (D.getD i default) x=false→mg ⟨hands,skill,mn,mx,sets,ents⟩ D x=false:=fun h=>by
   unfold mg
   rw[List.all_eq_false]
   exact⟨i,List.mem_range.2 hi,by simpa using h⟩
  rw[hst,hge,hgd] at ih
  rw[hge,hgd] at hall
  clear hst hge hgd
  generalize ents[i]=t at *
  generalize D[i]'(by omega)=d at *
  obtain⟨day,hand,due,ear⟩:=t
  obtain⟨sl,ts,rs⟩:=ear
  simp only[Tn.av,Tn.cells] at hidx hti
  simp only[Rng.av] at hidd
  simp -implicitDefEqProofs (maxSteps:=9^9) (disch:=omega) only[go_sem,simprocAttr]
  refine aj.bE (Tryz.ah (S:=S) 44 Tryz.uw fC dH) hands.toNat (fun _=>True) (fun h=>[(8,.bool ((List.range h).any fun(h:Nat)=>eP ⟨hands,skill,mn,mx,sets,ents⟩ ⟨day,hand,due,⟨sl,ts,rs⟩⟩ d h (tg x h))),(9,.int .i64 h)]) (fun _ _=>σ++[.cells [.int .i64 hands,.int .i64 skill,.int .i64 mn,.int .i64 mx,.list .no 2 (sets.map Sg.av),.list .no 6 (ents.map Tn.av)]]) [] (by kernel_rfl) (by simp) (by simp[upd,ins,aw,ae]) trivial ?_ ?_
  ·intro h j2 hh2 _ ih2
   have hix:idx (x.map (AV.int .i64)) (h:Int)=some (.int .i64 (tg x h)):=ix ⟨by omega,by omega⟩
   have hxh: -5≤tg x h∧tg x h≤5:=by
    have:h<x.length:=by omega
    have e:tg x h=x[h]:=by simp[tg,List.getD_eq_getElem?_getD,List.getElem?_eq_getElem this]
    rw[e];exact hxb _ (List.getElem_mem this)
   have hwh:IntKind.i64.wrap ((h:Int)+1)=((h+1:Nat):Int):=by rw[wrap64 (by omega) (by omega)];rfl
   have hlt:((h:Int)<hands)=True:=eq_true (by omega)
   have hok:sZ ⟨hands,skill,mn,mx,sets,ents⟩ ⟨day,hand,due,⟨sl,ts,rs⟩⟩ ⟨d.lo,d.hi⟩ (tg x h):=⟨⟨hsl,hsk⟩,hti,hdi,hxh⟩
   have hok':=eq_true hok
   have hst:((List.range (h+1)).any fun(h:Nat)=>eP ⟨hands,skill,mn,mx,sets,ents⟩ ⟨day,hand,due,⟨sl,ts,rs⟩⟩ d h (tg x h))=(((List.range h).any fun(h:Nat)=>eP ⟨hands,skill,mn,mx,sets,ents⟩ ⟨day,hand,due,⟨sl,ts,rs⟩⟩ d h (tg x h))||eP ⟨hands,skill,mn,mx,sets,ents⟩ ⟨day,hand,due,⟨sl,ts,rs⟩⟩ ⟨d.lo,d.hi⟩ h (tg x h)):=by
    rw[List.range_succ,List.any_append];simp
   rw[hst] at ih2
   clear hst hok
   generalize ((List.range h).any fun(h:Nat)=>eP ⟨hands,skill,mn,mx,sets,ents⟩ ⟨day,hand,due,⟨sl,ts,rs⟩⟩ d h (tg x h))=B at *
   cases B
   ·cases hT:eP ⟨hands,skill,mn,mx,sets,ents⟩ ⟨day,hand,due,⟨sl,ts,rs⟩⟩ ⟨d.lo,d.hi⟩ h (tg x h)
    ·rw[hT] at ih2
     simp -implicitDefEqProofs (maxSteps:=9^9) (disch:=omega) only[go_sem,simprocAttr,hidx,hidd,hix,hlt,hwh,hok',hT]
     exact(ih2 trivial []).ay rfl (by simp[upd,ins,aw,ae])
    ·rw[hT] at ih2
     simp -implicitDefEqProofs (maxSteps:=9^9) (disch:=omega) only[go_sem,simprocAttr,hidx,hidd,hix,hlt,hwh,hok',hT]
     exact(ih2 trivial []).ay rfl (by simp[upd,ins,aw,ae])
   ·simp -implicitDefEqProofs (maxSteps:=9^9) (disch:=omega) only[go_sem,simprocAttr,hidx,hidd,hix,hlt,hwh]
    exact(ih2 trivial []).ay rfl (by simp[upd,ins,aw,ae])
  ·intro j2 _
   have hge:(((hands.toNat:Nat):Int)<hands)=False:=eq_false (by omega)
   have hE:((List.range hands.toNat).any fun(h:Nat)=>eP ⟨hands,skill,mn,mx,sets,ents⟩ ⟨day,hand,due,⟨sl,ts,rs⟩⟩ d h (tg x h))=mi ⟨hands,skill,mn,mx,sets,ents⟩ ⟨day,hand,due,⟨sl,ts,rs⟩⟩ d x:=rfl
   rw[hE]
   generalize mi ⟨hands,skill,mn,mx,sets,ents⟩ ⟨day,hand,due,⟨sl,ts,rs⟩⟩ d x=B at *
   cases B
   ·simp -implicitDefEqProofs (maxSteps:=9^9) (disch:=omega) only[go_sem,simprocAttr,hge]
    rw[hall rfl]
   ·simp -implicitDefEqProofs (maxSteps:=9^9) (disch:=omega) only[go_sem,simprocAttr,hge,hwi]
    exact(ih rfl []).ay rfl (by simp[upd,ins,aw,ae])
 ·intro j hp
  have hF:mg ⟨hands,skill,mn,mx,sets,ents⟩ D x=true:=hp
  rw[hF]
  simp -implicitDefEqProofs (maxSteps:=9^9) (disch:=omega) only[go_sem,simprocAttr]
end Go.Proofs
namespace Go.Proofs
open Go Go.Mu Go.Ins
theorem JE{V:List Int}(hV:V≠[])(ha:V.Pairwise (· < ·))(hc:∀y,tg V 0≤y→y≤tg V ((V.length:Int)-1)→y∈V){due o sk:Int}(hs:0≤sk) :
  ((V.map (· - due)).any fun d=>decide (-sk≤d-o∧d-o≤sk))=decide ((bF (V.map (· - due))).lo-sk≤o∧o≤(bF (V.map (· - due))).hi+sk):=by
 rw[xY hV]
 have hle:=(uE ha (qo hV)).1
 rw[Bool.eq_iff_iff,List.any_eq_true,decide_eq_true_eq]
 constructor
 ·rintro⟨d,hd,h⟩
  obtain⟨v,hv,rfl⟩:=List.mem_map.1 hd
  have:=uE ha hv
  have h:=of_decide_eq_true h
  simp only
  omega
 ·intro h
  simp only at h
  obtain⟨y,hy1,hy2,hy3⟩:∃y,tg V 0≤y∧y≤tg V ((V.length:Int)-1)∧(-sk≤y-due-o∧y-due-o≤sk):=by
   by_cases c1:o<tg V 0-due
   ·exact⟨tg V 0,by omega,by omega,by omega⟩
   ·by_cases c2:tg V ((V.length:Int)-1)-due<o
    ·exact⟨tg V ((V.length:Int)-1),by omega,by omega,by omega⟩
    ·exact⟨o+due,by omega,by omega,by omega⟩
  exact⟨y-due,List.mem_map.2 ⟨y,hc y hy1 hy2,rfl⟩,decide_eq_true hy3⟩
theorem nY{r:Ros}(hg:r.Good){i:Nat}(hi:i<r.ents.length)(x:List Int)(h:Nat):byB r (aq r) x i h=eP r (r.ents.getD i default) (((aq r).map bF).getD i default) h (tg x h):=by
 have hge:r.ents.getD i default=r.ents[i]:=by simp[List.getD,List.getElem?_eq_getElem hi]
 have hed:(aq r).getD i []=(bS r.ents[i] r.hands).1:=by
  simp[aq,List.getD_eq_getElem?_getD,List.getElem?_eq_getElem hi]
 have hdd:((aq r).map bF).getD i default=bF (bS r.ents[i] r.hands).1:=by
  simp[aq,List.getD_eq_getElem?_getD,List.getElem?_eq_getElem hi]
 unfold byB eP
 rw[hge,hed,hdd]
 obtain⟨sl,lo,hi',rds,h1,h2,h3,h4⟩:=hg.one (List.getElem_mem hi)
 rw[h4]
 have hsk:=hg.skill
 by_cases c:0≤r.ents[i].hand∧r.ents[i].hand≠(h:Int)
 ·rw[if_pos c,decide_eq_false (by omega),Bool.false_and]
 ·rw[if_neg c,decide_eq_true (show r.ents[i].hand<0∨r.ents[i].hand=(h:Int) by omega),Bool.true_and]
  exact JE h3 (rj sl lo hi' rds) (fun y g1 g2=>Hh h2 h3 ⟨g1,g2⟩) hsk.1
theorem FT{r:Ros}(hg:r.Good)(x:List Int):mg r ((aq r).map bF) x=isB r (aq r) x:=by
 unfold mg isB mi
 rw[Bool.eq_iff_iff,List.all_eq_true,List.all_eq_true]
 refine forall_congr' fun i=>⟨fun h hi=>?_,fun h hi=>?_⟩
 all_goals
  have hi':=List.mem_range.1 hi
  have g:=h hi
  rw[List.any_eq_true] at g⊢
  obtain⟨k,hk,e⟩:=g
  refine⟨k,hk,?_⟩
 ·rw[nY hg hi'];exact e
 ·rw[← nY hg hi'];exact e
def cO(r:Ros)(D:List Rng)(l:List Int):Nat→List Int→List (List Int)
 | 0,b=>if mg r D b=true then[b] else[]
 | m+1,b=>if l.contains (b.length:Int) then(List.range (r.mx-r.mn+1).toNat).flatMap fun(k:Nat)=>if r.mn+k=0 then[] else cO r D l m (b++[r.mn+k]) else cO r D l m (b++[0])
theorem jT{r:Ros}(hr:r.Head){D:List Rng}{l:List Int}:∀(m:Nat) (b:List Int),(cO r D l m b).length≤11^m
 | 0,b=>by unfold cO;split<;> simp
 | m+1,b=>by
  have hm:=hr.mn
  unfold cO
  split
  ·have key:∀n:Nat,((List.range n).flatMap fun(k:Nat)=>if r.mn+k=0 then[] else cO r D l m (b++[r.mn+k])).length≤n*11^m:=by
    intro n
    induction n with
    | zero=>simp
    | succ n ih=>
     rw[List.range_succ,List.flatMap_append,List.length_append,Nat.succ_mul]
     have:(([n]:List Nat).flatMap fun(k:Nat)=>if r.mn+k=0 then[] else cO r D l m (b++[r.mn+k])).length≤11^m:=by
      rw[List.flatMap_singleton]
      split
      ·simp
      ·exact jT hr m _
     omega
   have h1:=key (r.mx-r.mn+1).toNat
   have h2:(r.mx-r.mn+1).toNat≤11:=by omega
   have h3:=Nat.mul_le_mul_right (11^m) h2
   rw[Nat.pow_succ]
   omega
  ·have:=jT hr m (b++[0]) (D:=D) (l:=l)
   have h4:11^m≤11^(m+1):=Nat.pow_le_pow_right (by omega) (by omega)
   omega
/-! The reference's rated is the program's truths (plain). -/
theorem vV:∀(l:List Int) (s:Nat),(∀x∈l,0≤x)→∀i:Nat,(l.foldl (fun s h=>s|||2^h.toNat) s).testBit i=(s.testBit i||l.contains (i:Int))
 | [],s,_,i=>by simp
 | x::l,s,h,i=>by
  have hx:=h x (by simp)
  rw[List.foldl_cons,vV l _ (fun y hy=>h y (by simp[hy])) i,Nat.testBit_or,Nat.testBit_two_pow,List.contains_cons,Bool.or_assoc]
  congr 1
  congr 1
  rw[Bool.eq_iff_iff,decide_eq_true_eq,beq_iff_eq]
  omega
theorem Ja{l:List Int}(h:∀x∈l,0≤x)(i:Nat):(gv l).testBit i=l.contains (i:Int):=by
 unfold gv;rw[vV l 0 h i];simp
theorem B8(r:Ros)(ds:List (List Int))(x:List Int):isB r ds (gC x)=isB r ds x:=by
 have e:∀i h,byB r ds (gC x) i h=byB r ds x i h:=fun i h=>by unfold byB cS;rw[nB]
 unfold isB
 simp only[e]
theorem G5{b:List Int}{v:Int}(h:b.length<4):gC (b++[v])=bG (gC b) (b.length:Int) v:=by
 unfold gC bG
 rw[Int.toNat_natCast,List.set_append_right _ _ (Nat.le_refl _),Nat.sub_self,List.append_assoc,List.length_append,List.length_singleton]
 congr 1
 rw[show 4-b.length=(4- (b.length+1))+1 by omega,List.replicate_succ]
 rfl
theorem Is{b:List Int}(h:b.length<4):gC (b++[0])=gC b:=by
 unfold gC
 rw[List.append_assoc,List.length_append,List.length_singleton,show 4-b.length=(4- (b.length+1))+1 by omega,List.replicate_succ]
 rfl
theorem rK{r:Ros}(hg:r.Good){l:List Int}(hl:∀x∈l,0≤x):∀(m:Nat) (b:List Int),b.length+m=r.hands.toNat→(cO r ((aq r).map bF) l m b).map gC=(dW r (gv l) m (gC b) b.length).filter (isB r (aq r))
 | 0,b,_=>by
  unfold cO dW
  rw[FT hg]
  by_cases h:isB r (aq r) b=true
  ·rw[if_pos h,List.filter_cons,B8,h];rfl
  ·rw[if_neg h,List.filter_cons,B8,Bool.eq_false_iff.2 h];rfl
 | m+1,b,hm=>by
  have h4:=hg.hands
  unfold cO dW
  rw[Ja hl]
  by_cases h:l.contains (b.length:Int)=true
  ·rw[if_pos h,if_pos h,List.map_flatMap,List.filter_flatMap]
   congr 1
   funext k
   by_cases h0:r.mn+(k:Int)=0
   ·rw[if_pos h0,if_pos h0];rfl
   ·rw[if_neg h0,if_neg h0,rK hg hl m (b++[r.mn+k]) (by simp;omega),G5 (by omega)]
    simp
  ·rw[if_neg h,if_neg h,rK hg hl m (b++[0]) (by simp;omega),Is (by omega)]
   simp
theorem mI{r:Ros}(hg:r.Good){l:List Int}(hl:∀x∈l,0≤x):(cO r ((aq r).map bF) l r.hands.toNat []).map gC=dw r (aq r) (gv l):=rK hg hl r.hands.toNat [] (by simp)
theorem vp{r:Ros}(hr:r.Head){D:List Rng}{l:List Int}:∀(m:Nat) (b x:List Int),x∈cO r D l m b→x.length=b.length+m∧∀n∈x,n∈b∨ -5≤n∧n≤5
 | 0,b,x,h=>by
  unfold cO at h
  split at h
  ·simp at h;subst h;exact⟨by simp,fun n hn=> .inl hn⟩
  ·cases h
 | m+1,b,x,h=>by
  have hmn:=hr.mn
  unfold cO at h
  split at h
  ·obtain⟨k,hk,h⟩:=List.mem_flatMap.1 h
   have hk:=List.mem_range.1 hk
   split at h
   ·cases h
   ·obtain⟨h1,h2⟩:=vp hr m _ x h
    rw[List.length_append,List.length_singleton] at h1
    refine⟨by omega,fun n hn=>?_⟩
    rcases h2 n hn with g | g
    ·rcases List.mem_append.1 g with g | g
     ·exact .inl g
     ·simp at g;right;omega
    ·exact .inr g
  ·obtain⟨h1,h2⟩:=vp hr m _ x h
   rw[List.length_append,List.length_singleton] at h1
   refine⟨by omega,fun n hn=>?_⟩
   rcases h2 n hn with g | g
   ·rcases List.mem_append.1 g with g | g
    ·exact .inl g
    ·simp at g;right;omega
   ·exact .inr g
/-! The reference's fewest (plain). -/
def rlM(r:Ros)(D:List Rng)(m:Nat):List (List Int):=(cJ r.hands.toNat m 0).filter fun l=>decide (cO r D l r.hands.toNat []≠[])
def rrM(r:Ros)(D:List Rng)(m:Nat):List (List Int):=(cJ r.hands.toNat m 0).flatMap fun l=>cO r D l r.hands.toNat []
def eg(r:Ros)(D:List Rng):Nat→Nat→List (List Int)×List (List Int)
 | 0,_=>([],[])
 | n+1,k=>if rlM r D k=[] then eg r D n (k+1) else(rlM r D k,rrM r D k)
def eO(r:Ros):List (List Int)×List (List Int):=eg r ((aq r).map bF) (r.hands.toNat+1) 0
theorem uG{r:Ros}{D:List Rng}:∀(n k:Nat),(∀j,k≤j→j<k+n→rlM r D j=[])→eg r D n k=([],[])
 | 0,_,_=>rfl
 | n+1,k,h=>by
  unfold eg
  rw[if_pos (h k (by omega) (by omega))]
  exact uG n (k+1) fun j h1 h2=>h j (by omega) (by omega)
theorem tQ{r:Ros}{D:List Rng}{m:Nat}(h1:rlM r D m≠[]):∀(n k:Nat),k≤m→m<k+n→(∀j,k≤j→j<m→rlM r D j=[])→eg r D n k=(rlM r D m,rrM r D m)
 | 0,k,h2,h3,_=>by omega
 | n+1,k,h2,h3,h4=>by
  unfold eg
  by_cases c:k=m
  ·subst c;rw[if_neg h1]
  ·rw[if_pos (h4 k (by omega) (by omega))]
   exact tQ h1 n (k+1) (by omega) (by omega) fun j g1 g2=>h4 j (by omega) g2
theorem rA{n m:Nat}{l:List Int}(h:l∈cJ n m 0):∀x∈l,0≤x:=fun x hx=>by have:=(mo h).2.1 x hx;omega
theorem Ps{r:Ros}(hg:r.Good){l:List Int}(hl:∀x∈l,0≤x):cO r ((aq r).map bF) l r.hands.toNat []=[]↔dw r (aq r) (gv l)=[]:=by
 rw[← mI hg hl,List.map_eq_nil_iff]
theorem qE{r:Ros}(hg:r.Good)(m:Nat):rlM r ((aq r).map bF) m=iO r m:=by
 unfold rlM iO
 refine List.filter_congr fun l hl=>?_
 rw[decide_eq_decide,ne_eq,ne_eq,Ps hg (rA hl)]
theorem O9{r:Ros}(hg:r.Good){m:Nat}(hm:m≤r.hands.toNat){u:List Int}:u∈cf r (aq r) m↔∃x∈rrM r ((aq r).map bF) m,gC x=u:=by
 have hh:=hg.hands
 obtain⟨c1,c2⟩:=rS r.hands.toNat (by omega) m (by omega)
 have hp:(2:Nat)^r.hands.toNat≤2^4:=Nat.pow_le_pow_right (by omega) (by omega)
 rw[jy hg.toHead]
 constructor
 ·rintro⟨s,g1,g2,g3⟩
  obtain⟨k1,k2⟩:=c2 s g1 (by rw[gZ _ (by omega)];exact g2)
  rw[← k2,← mI hg (rA k1)] at g3
  obtain⟨x,hx,rfl⟩:=List.mem_map.1 g3
  exact⟨x,List.mem_flatMap.2 ⟨_,k1,hx⟩,rfl⟩
 ·rintro⟨x,hx,rfl⟩
  obtain⟨l,hl,hx⟩:=List.mem_flatMap.1 hx
  obtain⟨g1,g2,_⟩:=c1 l hl
  refine⟨gv l,g1,by rw[← gZ _ (by omega)];exact g2,?_⟩
  rw[← mI hg (rA hl)]
  exact List.mem_map.2 ⟨x,hx,rfl⟩
theorem kD{r:Ros}(hg:r.Good)(hro:bP r=0) :
  (aC r []=0∧(eO r).1=dV r∧dV r≠[]∧(∀u,u∈aE r (aq r)↔∃x∈(eO r).2,gC x=u))∨(aC r []=11∧eO r=([],[])∧dV r=[]∧aE r (aq r)=[]):=by
 rcases kW r (aq r) with⟨e,g⟩ | ⟨m,g1,g2,g3,g4⟩
 ·right
  have hn:∀m,m≤r.hands.toNat→iO r m=[]:=fun m hm=>(gI hg.toHead hm).1 (g m hm)
  obtain⟨k1,k2⟩:=Gx hg hro hn
  exact⟨k1,uG _ _ fun j _ hj=>by rw[qE hg];exact hn j (by omega),k2,e⟩
 ·left
  have h1:iO r m≠[]:=fun c=>g3 ((gI hg.toHead g1).2 c)
  have h0:∀j,j<m→iO r j=[]:=fun j hj=>(gI hg.toHead (by omega)).1 (g4 j hj)
  obtain⟨k1,k2⟩:=FH hg hro g1 h1 h0
  have hf:eO r=(rlM r ((aq r).map bF) m,rrM r ((aq r).map bF) m):=tQ (by rw[qE hg];exact h1) _ _ (by omega) (by omega) fun j _ hj=>by rw[qE hg];exact h0 j hj
  rw[hf]
  refine⟨k1,by rw[k2];exact qE hg m,by rw[k2];exact h1,fun u=>?_⟩
  rw[pF g2]
  exact O9 hg g1
theorem Qq{r:Ros}(hr:r.Head){D:List Rng}{m:Nat}{x:List Int}(h:x∈rrM r D m):(x.length:Int)=r.hands∧∀n∈x, -5≤n∧n≤5:=by
 have hh:=hr.hands
 obtain⟨l,_,hx⟩:=List.mem_flatMap.1 h
 obtain⟨h1,h2⟩:=vp hr _ _ _ hx
 refine⟨by simp at h1;omega,fun n hn=>?_⟩
 rcases h2 n hn with g | g
 ·cases g
 ·exact g
theorem vz{r:Ros}(hr:r.Head){x:List Int}(h:x∈(eO r).2):(x.length:Int)=r.hands∧∀n∈x, -5≤n∧n≤5:=by
 have key:∀n k,(∀x∈(eg r ((aq r).map bF) n k).2,(x.length:Int)=r.hands∧∀n∈x, -5≤n∧n≤5):=by
  intro n
  induction n with
  | zero=>intro k x hx;cases hx
  | succ n ih=>
   intro k x hx
   unfold eg at hx
   split at hx
   ·exact ih _ x hx
   ·exact Qq hr hx
 exact key _ _ x h
theorem Pz{r:Ros}(hr:r.Head){D:List Rng}{m:Nat}(hm:m≤4):(rrM r D m).length≤9200000:=by
 have hh:=hr.hands
 have h1:=kQ (n:=r.hands.toNat) (m:=m) (a:=0) (by omega) hm
 have key:∀(L:List (List Int)),(L.flatMap fun l=>cO r D l r.hands.toNat []).length≤L.length*14641:=by
  intro L
  induction L with
  | nil=>simp
  | cons a L ih=>
   have h2:=jT hr (D:=D) (l:=a) r.hands.toNat []
   have h3:11^r.hands.toNat≤11^4:=Nat.pow_le_pow_right (by omega) (by omega)
   rw[List.flatMap_cons,List.length_append,List.length_cons,Nat.succ_mul]
   omega
 have:=key (cJ r.hands.toNat m 0)
 unfold rrM
 omega
theorem zc{r:Ros}(hr:r.Head):(eO r).2.length≤9200000:=by
 have hh:=hr.hands
 have key:∀n k,k+n≤5→(eg r ((aq r).map bF) n k).2.length≤9200000:=by
  intro n
  induction n with
  | zero=>intro k hk;simp[eg]
  | succ n ih=>
   intro k hk
   unfold eg
   split
   ·exact ih _ (by omega)
   ·exact Pz hr (by omega)
 exact key _ _ (by omega)
end Go.Proofs
