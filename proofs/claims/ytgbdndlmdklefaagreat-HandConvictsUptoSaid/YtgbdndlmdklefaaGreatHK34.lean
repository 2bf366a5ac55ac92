/- Texts of a proof: lemmas. -/
import Derived.Test.YtgbdndlmdklefaaGreatHK33
import Derived.Test.YtgbdndlmdklefaaGreatHK32
set_option linter.unusedSimpArgs false
set_option linter.unusedVariables false
set_option maxRecDepth 100000
set_option maxHeartbeats 40000000
namespace Go.Proofs
open Go Go.Mu Go.Ins
def zm(d due:Int):Int:=if 1≤due∧due≤100000 then iu d else 1
def tf(r:Ros)(h d due:Int):Int:=aC r [aM r.hands h,zm d due]
def tM(r:Ros)(h d due:Int):Int×Int:=if tf r h d due=0 then(due+(b8 r (aE r (aq r)) h d).1-r.skill,due+(b8 r (aE r (aq r)) h d).2+r.skill) else(0,0)
theorem yK{r:Ros}{L:List (List Int)}(hL:∀x∈L,OkX r x){h d:Int}(hd:0≤d∧d≤60): -300≤(b8 r L h d).1∧(b8 r L h d).1≤100000∧ -100000≤(b8 r L h d).2∧(b8 r L h d).2≤300:=
 vD L (100000, -100000) (fun x hx=>qu (hL x hx) hd) (by decide)
theorem RH(r:Ros)(hf:r.Fit)(h d due:Int):al aV 33 [r.av,.int .i64 h,.int .i64 d,.int .i64 due] (.tup [.agg [.int .i64 (tM r h d due).1,.int .i64 (tM r h d due).2],.int .i64 (tf r h d due)]):=by
 refine PvE (Tryz.ah (S:=aV) 55 Tryz.Ng dk cx) (.tup (by simp only[List.mem_cons,List.not_mem_nil,or_false,forall_eq_or_imp,forall_eq];exact⟨sL _ _,.int⟩)) Tryz.Qg Tryz.func33 rfl ?_
 intro σ
 have hte:tf r h d due=aC r [aM r.hands h,zm d due]:=rfl
 have htl:tM r h d due=if aC r [aM r.hands h,zm d due]=0 then(due+(b8 r (aE r (aq r)) h d).1-r.skill,due+(b8 r (aE r (aq r)) h d).2+r.skill) else(0,0):=rfl
 rw[hte,htl]
 clear hte htl
 simp only[Ros.av]
 simp -implicitDefEqProofs (maxSteps:=9^9) (disch:=omega) only[go_sem,simprocAttr]
 refine PJ d _ _ ?_
 by_cases hdu:1≤due∧due≤100000
 ·have e:decide (1≤due∧due≤100000)=true:=decide_eq_true hdu
  have e2:zm d due=iu d:=if_pos hdu
  rw[e2]
  simp -implicitDefEqProofs (maxSteps:=9^9) (disch:=omega) only[go_sem,simprocAttr,e]
  refine iI r h _ _ ?_
  simp -implicitDefEqProofs (maxSteps:=9^9) (disch:=omega) only[go_sem,simprocAttr,e]
  refine ao.weaken (l':=[r.av,.list .no 1 ([aM r.hands h,iu d].map (.int .i64))]) ⟨⟨rfl,rfl,rfl,rfl,⟨rfl,.inl rfl,.inl rfl⟩,⟨rfl,.inl rfl,.inl rfl⟩,trivial⟩,⟨rfl,.inl rfl,.inl rfl⟩,trivial⟩ ?_
  refine gm r hf [aM r.hands h,iu d] (by simp) (fun hE j=>?_) (fun hO hg a j ha hm=>?_)
  ·have hE':(aC r [aM r.hands h,iu d]=0)=False:=eq_false hE
   rw[if_neg hE]
   simp -implicitDefEqProofs (maxSteps:=9^9) (disch:=omega) only[go_sem,simprocAttr,hE',oo]
  ·rw[if_pos hO,hO]
   have hh:=jQ hO
   have hh4:=hg.hands
   have hsk:=hg.skill
   have hd0:=nG hO (iu d) (by simp)
   have hd:0≤d∧d≤60:=by
    unfold iu at hd0
    split at hd0
    ·assumption
    ·cases hd0
   have hEi:=yK (gT hg) (h:=h) hd
   have w1:IntKind.i64.wrap (due+(b8 r (aE r (aq r)) h d).1)=due+(b8 r (aE r (aq r)) h d).1:=wrap64 (by omega) (by omega)
   have w2:IntKind.i64.wrap (due+(b8 r (aE r (aq r)) h d).2)=due+(b8 r (aE r (aq r)) h d).2:=wrap64 (by omega) (by omega)
   have w3:IntKind.i64.wrap (due+(b8 r (aE r (aq r)) h d).1-r.skill)=due+(b8 r (aE r (aq r)) h d).1-r.skill:=wrap64 (by omega) (by omega)
   have w4:IntKind.i64.wrap (due+(b8 r (aE r (aq r)) h d).2+r.skill)=due+(b8 r (aE r (aq r)) h d).2+r.skill:=wrap64 (by omega) (by omega)
   simp only[Ros.wav]
   simp -implicitDefEqProofs (maxSteps:=9^9) (disch:=omega) only[go_sem,simprocAttr]
   refine IV r (aq r) hg.toHead (aE r (aq r)) (gT hg) (by have:=gH hg.toHead (ds:=aq r);omega) h d (by omega) hd (a:=a) (by first | exact hm | (have:=fD (l:=[aa.cells (r.az (aq r))]) hm;simpa[Ros.az] using this)) ?_
   simp -implicitDefEqProofs (maxSteps:=9^9) (disch:=omega) only[go_sem,simprocAttr,w1,w2,w3,w4]
 ·have e:decide (1≤due∧due≤100000)=false:=decide_eq_false hdu
  have e2:zm d due=1:=if_neg hdu
  rw[e2]
  simp -implicitDefEqProofs (maxSteps:=9^9) (disch:=omega) only[go_sem,simprocAttr,e]
  refine iI r h _ _ ?_
  simp -implicitDefEqProofs (maxSteps:=9^9) (disch:=omega) only[go_sem,simprocAttr,e]
  refine ao.weaken (l':=[r.av,.list .no 1 ([aM r.hands h,1].map (.int .i64))]) ⟨⟨rfl,rfl,rfl,rfl,⟨rfl,.inl rfl,.inl rfl⟩,⟨rfl,.inl rfl,.inl rfl⟩,trivial⟩,⟨rfl,.inl rfl,.inl rfl⟩,trivial⟩ ?_
  refine gm r hf [aM r.hands h,1] (by simp) (fun hE j=>?_) (fun hO hg a j ha hm=>?_)
  ·have hE':(aC r [aM r.hands h,1]=0)=False:=eq_false hE
   rw[if_neg hE]
   simp -implicitDefEqProofs (maxSteps:=9^9) (disch:=omega) only[go_sem,simprocAttr,hE',oo]
  ·rw[if_pos hO,hO]
   have hh:=jQ hO
   have hh4:=hg.hands
   have hsk:=hg.skill
   have hd0:=nG hO (1) (by simp)
   exact absurd hd0 (by decide)
def fZ(r:Ros)(L:List (List Int))(h lim:Int):Nat→Int→Int
 | 0,d=>d
 | n+1,d=>if d<60 then(if(b8 r L h (d+1)).1< -lim∨lim<(b8 r L h (d+1)).2 then d else fZ r L h lim n (d+1)) else d
def y7(lim:Int):Int:=if lim<0 then 1 else 0
def qm(r:Ros)(h lim:Int):Int:=aC r [aM r.hands h,y7 lim]
def tw(r:Ros)(h lim:Int):Int:=if qm r h lim=0 then fZ r (aE r (aq r)) h lim 60 (cn r.sets h 60) else 0
theorem H4(r:Ros)(hf:r.Fit)(h lim:Int)(hlim:lim≤9223372036854775807):al aV 35 [r.av,.int .i64 h,.int .i64 lim] (.tup [.int .i64 (tw r h lim),.int .i64 (qm r h lim)]):=by
 refine PvE (Tryz.ah (S:=aV) 70 Tryz.xo dk cx) (.tup (by simp only[List.mem_cons,List.not_mem_nil,or_false,forall_eq_or_imp,forall_eq];exact⟨.int,.int⟩)) Tryz.Se Tryz.func35 rfl ?_
 intro σ
 have hte:qm r h lim=aC r [aM r.hands h,y7 lim]:=rfl
 have htl:tw r h lim=if aC r [aM r.hands h,y7 lim]=0 then fZ r (aE r (aq r)) h lim 60 (cn r.sets h 60) else 0:=rfl
 rw[hte,htl]
 clear hte htl
 simp only[Ros.av]
 by_cases hl0:lim<0
 ·have e2:y7 lim=1:=if_pos hl0
  rw[e2]
  have hl0':(lim<0)=True:=eq_true hl0
  simp -implicitDefEqProofs (maxSteps:=9^9) (disch:=omega) only[go_sem,simprocAttr,hl0']
  refine iI r h _ _ ?_
  simp -implicitDefEqProofs (maxSteps:=9^9) (disch:=omega) only[go_sem,simprocAttr,hl0']
  refine ao.weaken (l':=[r.av,.list .no 1 ([aM r.hands h,1].map (.int .i64))]) ⟨⟨rfl,rfl,rfl,rfl,⟨rfl,.inl rfl,.inl rfl⟩,⟨rfl,.inl rfl,.inl rfl⟩,trivial⟩,⟨rfl,.inl rfl,.inl rfl⟩,trivial⟩ ?_
  refine gm r hf [aM r.hands h,1] (by simp) (fun hE j=>?_) (fun hO hg a j ha hm=>?_)
  ·have hE':(aC r [aM r.hands h,1]=0)=False:=eq_false hE
   rw[if_neg hE]
   simp -implicitDefEqProofs (maxSteps:=9^9) (disch:=omega) only[go_sem,simprocAttr,hE',oo]
  ·rw[if_pos hO,hO]
   exact absurd (nG hO 1 (by simp)) (by decide)
 ·have e2:y7 lim=0:=if_neg hl0
  rw[e2]
  have hl0':(lim<0)=False:=eq_false hl0
  simp -implicitDefEqProofs (maxSteps:=9^9) (disch:=omega) only[go_sem,simprocAttr,hl0']
  refine iI r h _ _ ?_
  simp -implicitDefEqProofs (maxSteps:=9^9) (disch:=omega) only[go_sem,simprocAttr,hl0']
  refine ao.weaken (l':=[r.av,.list .no 1 ([aM r.hands h,0].map (.int .i64))]) ⟨⟨rfl,rfl,rfl,rfl,⟨rfl,.inl rfl,.inl rfl⟩,⟨rfl,.inl rfl,.inl rfl⟩,trivial⟩,⟨rfl,.inl rfl,.inl rfl⟩,trivial⟩ ?_
  refine gm r hf [aM r.hands h,0] (by simp) (fun hE j=>?_) (fun hO hg a j ha hm=>?_)
  ·have hE':(aC r [aM r.hands h,0]=0)=False:=eq_false hE
   rw[if_neg hE]
   simp -implicitDefEqProofs (maxSteps:=9^9) (disch:=omega) only[go_sem,simprocAttr,hE',oo]
  ·rw[if_pos hO,hO]
   have hh:=jQ hO
   have hh4:=hg.hands
   have hsl:=hg.setl
   simp only[Ros.wav]
   simp -implicitDefEqProofs (maxSteps:=9^9) (disch:=omega) only[go_sem,simprocAttr]
   have hlen:=gH hg.toHead (ds:=aq r)
   have hokL:=gT hg
   have hm1:ai (σ++aa.cells [.int .i64 r.hands,.int .i64 r.skill,.int .i64 r.mn,.int .i64 r.mx,.list .no 2 (r.sets.map Sg.av),.list .no 6 (r.ents.map Tn.av)]::(j++[aa.cells (r.az (aq r))])) a=some (.map (bh (aE r (aq r)))):=by
    have:=fD (l:=[aa.cells (r.az (aq r))]) hm;simpa using this
   have hx1:ai (σ++aa.cells [.int .i64 r.hands,.int .i64 r.skill,.int .i64 r.mn,.int .i64 r.mx,.list .no 2 (r.sets.map Sg.av),.list .no 6 (r.ents.map Tn.av)]::(j++[aa.cells (r.az (aq r))])) (σ.length+(j.length+1))=some (.cells (r.az (aq r))):=by rw[aZ];simp
   have hr1:ai (σ++aa.cells [.int .i64 r.hands,.int .i64 r.skill,.int .i64 r.mn,.int .i64 r.mx,.list .no 2 (r.sets.map Sg.av),.list .no 6 (r.ents.map Tn.av)]::(j++[aa.cells (r.az (aq r))])) σ.length=some (.cells [.int .i64 r.hands,.int .i64 r.skill,.int .i64 r.mn,.int .i64 r.mx,.list .no 2 (r.sets.map Sg.av),.list .no 6 (r.ents.map Tn.av)]):=by rw[a8];rfl
   have hwc:[AV.int .i64 r.hands,.int .i64 r.skill,.int .i64 r.mn,.int .i64 r.mx,.list .no 2 (r.sets.map Sg.av),.list .no 6 (r.ents.map Tn.av),.list .no 1 ((aq r).map ar)]=r.az (aq r):=rfl
   rw[hwc]
   obtain⟨J,hJ⟩:∃J,aa.cells [.int .i64 r.hands,.int .i64 r.skill,.int .i64 r.mn,.int .i64 r.mx,.list .no 2 (r.sets.map Sg.av),.list .no 6 (r.ents.map Tn.av)]::(j++[aa.cells (r.az (aq r))])=J:=⟨_,rfl⟩
   rw[hJ] at hm1 hx1 hr1⊢
   clear hm hJ ha
   obtain⟨σ1,hσ1⟩:∃σ1,σ1=σ++J:=⟨_,rfl⟩
   rw[← hσ1] at hm1 hx1 hr1⊢
   have hm2:∀l,ai (σ1++l) a=some (.map (bh (aE r (aq r)))):=fun l=>fD hm1
   have hx2:∀l,ai (σ1++l) (σ.length+(j.length+1))=some (.cells (r.az (aq r))):=fun l=>fD hx1
   have hr2:∀l,ai (σ1++l) σ.length=some (.cells [.int .i64 r.hands,.int .i64 r.skill,.int .i64 r.mn,.int .i64 r.mx,.list .no 2 (r.sets.map Sg.av),.list .no 6 (r.ents.map Tn.av)]):=fun l=>fD hr1
   refine aj.bE (Tryz.ah (S:=aV) 70 Tryz.xo dk cx) r.sets.length (fun _=>True) (fun i=>[(12,.int .i64 ((r.sets.take i).foldl (dt h 60) 0)),(35,.int .i64 i)]) (fun _ j'=>σ1++j') [] (by kernel_rfl) (by simp) (by simp[upd,ins,aw,ae]) trivial ?_ ?_
   ·intro i j' hi _ ih
    rw[jo hi] at ih
    have hs60:=(hg.set _ (List.getElem_mem hi)).2
    have hse:∀m,dt h 60 m r.sets[i]=if r.sets[i].hand=h then(if m<r.sets[i].day then r.sets[i].day else m) else m:=fun m=>by
     unfold dt
     by_cases c:r.sets[i].hand=h
     ·rw[if_pos ⟨c,hs60.2⟩,if_pos c]
     ·rw[if_neg (fun g=>c g.1),if_neg c]
    rw[hse] at ih
    generalize (r.sets.take i).foldl (dt h 60) 0=m at *
    simp -implicitDefEqProofs (maxSteps:=9^9) (disch:=omega) only[go_sem,simprocAttr,Sg.av]
    refine⟨fun p1=>?_,fun p1=>?_⟩
    ·rw[if_pos p1] at ih
     exact(ih trivial (j'++[.cells [.int .i64 r.sets[i].hand,.int .i64 r.sets[i].day]])).ay (by simp) (by simp[upd,ins,aw,ae])
    ·rw[if_neg p1] at ih
     exact(ih trivial (j'++[.cells [.int .i64 r.sets[i].hand,.int .i64 r.sets[i].day]])).ay (by simp) (by simp[upd,ins,aw,ae])
   ·intro j' _
    rw[List.take_length]
    have hfr:r.sets.foldl (dt h 60) 0=cn r.sets h 60:=rfl
    have hfi:=@jU r.sets h 60 (by decide)
    rw[hfr]
    generalize cn r.sets h 60=d0 at hfi⊢
    simp -implicitDefEqProofs (maxSteps:=9^9) (disch:=omega) only[go_sem,simprocAttr]
    refine aj.eL (Tryz.ah (S:=aV) 70 Tryz.xo dk cx) (α:=Int) (fun d=>(60-d).toNat) (fun d τ=>(∃j2,τ=σ1++j2)∧(0≤d∧d≤60)∧∃n,(60-d).toNat≤n∧fZ r (aE r (aq r)) h lim n d=fZ r (aE r (aq r)) h lim 60 d0) (fun d=>[(12,.int .i64 d)]) d0 (by kernel_rfl) (by simp[upd,ins,aw,ae]) ⟨⟨j',rfl⟩,hfi,60,by omega,rfl⟩ ?_
    rintro d τ ⟨⟨j2,rfl⟩,hd,n,hn,ht⟩ ih
    have hfin:∀j2,∃junk,σ1++j2=σ++junk:=fun j2=>⟨J++j2,by rw[hσ1,List.append_assoc]⟩
    by_cases hdl:d<60
    ·have hdl':(d<60)=True:=eq_true hdl
     obtain⟨n,rfl⟩:∃m,n=m+1:=⟨n-1,by omega⟩
     have hEi:=yK hokL (h:=h) (d:=d+1) (by omega)
     have hwd:IntKind.i64.wrap (d+1)=d+1:=wrap64 (by omega) (by omega)
     have hwl:IntKind.i64.wrap (-lim)= -lim:=wrap64 (by omega) (by omega)
     have hts:fZ r (aE r (aq r)) h lim (n+1) d=if(b8 r (aE r (aq r)) h (d+1)).1< -lim∨lim<(b8 r (aE r (aq r)) h (d+1)).2 then d else fZ r (aE r (aq r)) h lim n (d+1):=by simp only[fZ,if_pos hdl]
     rw[hts] at ht
     simp -implicitDefEqProofs (maxSteps:=9^9) (disch:=omega) only[go_sem,simprocAttr,hdl',hx2,hm2,hr2,hwd,Ros.az]
     refine IV r (aq r) hg.toHead (aE r (aq r)) hokL (by omega) h (d+1) (by omega) (by omega) (a:=a) (hm2 _) ?_
     generalize b8 r (aE r (aq r)) h (d+1)=E at hEi ht⊢
     simp -implicitDefEqProofs (maxSteps:=9^9) (disch:=omega) only[go_sem,simprocAttr,hx2,hm2,hr2,hwd,hwl,Ros.az]
     have hg1:∀v l,v=fZ r (aE r (aq r)) h lim 60 d0→jH σ (AV.tup [AV.int IntKind.i64 (fZ r (aE r (aq r)) h lim 60 d0),AV.int IntKind.i64 0]) (AV.tup [AV.int IntKind.i64 v,AV.int IntKind.i64 0]) (σ1++l):=fun v l hv=>⟨hfin l,by rw[hv];simp[wk,wkL,wk1,wk0]⟩
     refine⟨fun p1=>hg1 _ _ ?_,fun p1=>⟨fun p2=>hg1 _ _ ?_,fun p2=>?_⟩⟩
     ·rw[if_pos (.inl (by omega))] at ht;exact ht
     ·rw[if_pos (.inr p2)] at ht;exact ht
     ·rw[if_neg (by omega)] at ht
      exact(ih (d+1) _ (by omega) ⟨⟨j2++[aa.cells [AV.int IntKind.i64 E.fst,AV.int IntKind.i64 E.snd]],rfl⟩,by omega,n,by omega,ht⟩).ay rfl (by simp[upd,ins,aw,ae])
    ·have hdl':(d<60)=False:=eq_false hdl
     have hdt:fZ r (aE r (aq r)) h lim n d=d:=by
      cases n with
      | zero=>rfl
      | succ n=>simp only[fZ,if_neg hdl]
     rw[hdt] at ht
     rw[← ht]
     simp -implicitDefEqProofs (maxSteps:=9^9) (disch:=omega) only[go_sem,simprocAttr,hdl']
     exact⟨hfin j2,by simp[wk,wkL,wk1,wk0]⟩
end Go.Proofs
namespace Go.Proofs
open Go Go.Mu Go.Ins
variable {S:MC Tryz.prog}
theorem xp{Z:List Int}{i:Nat}:tg Z (i:Int)=at_ Z i:=by unfold tg at_;rw[Int.toNat_natCast];rfl
def leI(a b:Int):Prop:=a≤b
instance (a b:Int):Decidable (leI a b):=by unfold leI;infer_instance
theorem dO(a b c:Int)(h1:leI a b)(h2:leI b c):leI a c:=Int.le_trans h1 h2
theorem fe(a b:Int):leI a b∨leI b a:=Int.le_total a b
theorem oI(a b:Int)(h1:leI a b)(h2:leI b a):a=b:=Int.le_antisymm h1 h2
theorem RQ(zs:List Int)(hz:0<zs.length)(hn:zs.length≤1000000){σ:List aa}{r:Nat}(hg:ai σ r=some (.vec 1 (zs.map (.int .i64)))){Q:AV→List aa→Prop}(h:Q (.tup []) (ax σ r (.vec 1 ((cu leI zs).map (.int .i64))))) :
  ao S 182 [.vec r zs.length,.int .i64 0,.int .i64 zs.length] σ Q:=by
 refine AcE (Tryz.ah (S:=S) 49 Tryz.kB dL cH) Tryz.Cf Tryz.func182 rfl ?_
 simp -implicitDefEqProofs (maxSteps:=9^9) (disch:=omega) only[go_sem,simprocAttr]
 refine aj.kL (Tryz.ah (S:=S) 49 Tryz.kB dL cH) (zs.length-1) (fun i τ=>∃Z:List Int,Z.Perm zs∧lB leI Z (i+1)∧τ=ax σ r (.vec 1 (Z.map (.int .i64)))) (fun i=>[(6,.int .i64 ((i:Int)+1))]) (by kernel_rfl) (by simp[upd,ins,aw,ae]) ⟨zs,.refl _,lB.one,(mu hg).symm⟩ ?_ ?_
 ·rintro i τ hi ⟨Z,hp,hu,rfl⟩ ih
  have hwi:IntKind.i64.wrap ((i:Int)+1+1)=((i+1:Nat):Int)+1:=by rw[wrap64 (by omega) (by omega)];rfl
  simp -implicitDefEqProofs (maxSteps:=9^9) (disch:=omega) only[go_sem,simprocAttr]
  refine aj.eL (Tryz.ah (S:=S) 49 Tryz.kB dL cH) (α:=Nat×List Int) (fun a=>a.1) (fun a τ=>a.1≤i+1∧a.2.Perm zs∧iY leI a.2 (i+1) a.1∧τ=ax σ r (.vec 1 (a.2.map (.int .i64)))) (fun a=>[(7,.int .i64 (a.1:Int))]) (i+1,Z) (by kernel_rfl) (by simp[upd,ins,aw,ae]) ⟨Nat.le_refl _,hp,hu.BY,rfl⟩ ?_
  clear hu hp
  rintro⟨j,Y⟩ τ ⟨hj,hp,hS,rfl⟩ ih2
  simp only at hj hp hS ih2⊢
  have hyl:Y.length=zs.length:=hp.length_eq
  have hgs:∀W,ai (ax σ r (.vec 1 W)) r=some (.vec 1 W):=fun W=>cN hg _
  cases j with
  | zero=>
   have hU:=hS.done dO (.inl rfl)
   simp -implicitDefEqProofs (maxSteps:=9^9) (disch:=omega) only[go_sem,simprocAttr,hwi]
   exact(ih _ ⟨Y,hp,hU,rfl⟩).ay rfl (by simp[upd,ins,aw,ae])
  | succ k=>
   have hk1:k+1<Y.length:=by omega
   have e1:tg Y ((k:Int)+1)=at_ Y (k+1):=xp (i:=k+1)
   have e0:tg Y ((k:Int)+1-1)=at_ Y k:=by rw[show((k:Int)+1-1)=(k:Int) by omega];exact xp
   by_cases hlt:at_ Y (k+1)<at_ Y k
   ·have hlt':(at_ Y (k+1)<at_ Y k)=True:=eq_true hlt
    have hS2:=hS.step (by omega) hj (Int.le_of_lt hlt)
    have hp2:=(yC hk1).trans hp
    have t1:((k:Int)+1).toNat=k+1:=by omega
    have t0:((k:Int)+1-1).toNat=k:=by omega
    have m0s:∀v,((Y.map (AV.int .i64)).set ((k:Int)+1).toNat v)[((k:Int)+1-1).toNat]? = some (.int .i64 (at_ Y k)):=fun v=>by rw[t1,t0,List.getElem?_set_ne (by omega),kn (by omega:k<Y.length)];simp[show k<Y.length by omega]
    have hfin:((Y.map (AV.int .i64)).set ((k:Int)+1).toNat (.int .i64 (at_ Y k))).set ((k:Int)+1-1).toNat (.int .i64 (at_ Y (k+1)))=(swp Y k).map (.int .i64):=by unfold swp;rw[t1,t0,List.map_set,List.map_set]
    simp -implicitDefEqProofs (maxSteps:=9^9) (disch:=omega) only[go_sem,simprocAttr,hgs,e1,e0,hlt',m0s,List.length_set]
    exact(ih2 (k,swp Y k) _ (Nat.lt_succ_self k) ⟨by omega,hp2,hS2,by rw[hfin]⟩).ay rfl (by simp[upd,ins,aw,ae])
   ·have hlt':(at_ Y (k+1)<at_ Y k)=False:=eq_false hlt
    have hU:=hS.done dO (.inr ⟨k,rfl,by unfold leI;omega⟩)
    simp -implicitDefEqProofs (maxSteps:=9^9) (disch:=omega) only[go_sem,simprocAttr,hgs,e1,e0,hlt',hwi]
    exact(ih _ ⟨Y,hp,hU,rfl⟩).ay rfl (by simp[upd,ins,aw,ae])
 ·rintro τ ⟨Z,hp,hu,rfl⟩
  have hzl:Z.length=zs.length:=hp.length_eq
  rw[show zs.length-1+1=Z.length by omega] at hu
  have he:=iM dO fe oI hu.pairwise hp
  rw[← he] at h
  simp -implicitDefEqProofs (maxSteps:=9^9) (disch:=omega) only[go_sem,simprocAttr]
  exact h
theorem P2(zs:List Int)(hz:0<zs.length)(hn:zs.length≤12){lim:Int}{σ:List aa}{r:Nat}(hg:ai σ r=some (.vec 1 (zs.map (.int .i64)))){Q:AV→List aa→Prop}(h:Q (.tup []) (ax σ r (.vec 1 ((cu leI zs).map (.int .i64))))) :
  ao S 141 [.vec r zs.length,.int .i64 0,.int .i64 zs.length,.int .i64 lim] σ Q:=by
 refine AcE (Tryz.ah (S:=S) 134 Tryz.p7 dL cH) Tryz.DD Tryz.func141 rfl ?_
 simp -implicitDefEqProofs (maxSteps:=9^9) (disch:=omega) only[go_sem,simprocAttr]
 refine aj.once (Tryz.ah (S:=S) 134 Tryz.p7 dL cH) (by kernel_rfl) ?_
 have h12:((zs.length:Int)≤12)=True:=eq_true (by omega)
 simp -implicitDefEqProofs (maxSteps:=9^9) (disch:=omega) only[go_sem,simprocAttr,h12]
 refine RQ zs hz (by omega) hg ?_
 simp -implicitDefEqProofs (maxSteps:=9^9) (disch:=omega) only[go_sem,simprocAttr]
 exact h
theorem OU(zs:List Int)(hz:0<zs.length)(hn:zs.length≤12){σ:List aa}{r:Nat}(hg:ai σ r=some (.vec 1 (zs.map (.int .i64)))){Q:AV→List aa→Prop}(h:Q (.tup []) (ax σ r (.vec 1 ((cu leI zs).map (.int .i64))))) :
  ao S 88 [.vec r zs.length] σ Q:=by
 refine AcE (Tryz.ah (S:=S) 11 (fun _=>([],[])) dL cH) Tryz.Js Tryz.func88 rfl ?_
 have hw:IntKind.u64.wrap (zs.length:Int)=zs.length:=by unfold IntKind.wrap;simp[IntKind.signed,IntKind.bits];omega
 simp -implicitDefEqProofs (maxSteps:=9^9) (disch:=omega) only[go_sem,simprocAttr]
 rw[hw]
 refine DU zs.length hz (by omega) _ _ ?_
 simp -implicitDefEqProofs (maxSteps:=9^9) (disch:=omega) only[go_sem,simprocAttr]
 refine P2 zs hz hn hg ?_
 simp -implicitDefEqProofs (maxSteps:=9^9) (disch:=omega) only[go_sem,simprocAttr]
 exact h
theorem DM(zs:List Int)(hn:zs.length≤1000000)(hs:∀i,i+1<zs.length→at_ zs (i+1)≠at_ zs i){σ:List aa}{r:Nat}(hg:ai σ r=some (.vec 1 (zs.map (.int .i64)))){Q:AV→List aa→Prop}(h:Q (.vec r zs.length) σ) :
  ao S 89 [.vec r zs.length] σ Q:=by
 refine AcE (Tryz.ah (S:=S) 61 Tryz.Cd eJ dv) Tryz.Sj Tryz.func89 rfl ?_
 by_cases h2:zs.length<2
 ·have h2':((zs.length:Int)<2)=True:=eq_true (by omega)
  simp -implicitDefEqProofs (maxSteps:=9^9) (disch:=omega) only[go_sem,simprocAttr,h2']
  exact h
 ·have h2':((zs.length:Int)<2)=False:=eq_false (by omega)
  simp -implicitDefEqProofs (maxSteps:=9^9) (disch:=omega) only[go_sem,simprocAttr,h2']
  refine aj.kL (Tryz.ah (S:=S) 61 Tryz.Cd eJ dv) (zs.length-1) (fun _ τ=>τ=σ) (fun i=>[(3,.int .i64 ((i:Int)+1))]) (by kernel_rfl) (by simp[upd,ins,aw,ae]) rfl ?_ ?_
  ·rintro i τ hi rfl ih
   have e1:tg zs ((i:Int)+1)=at_ zs (i+1):=xp (i:=i+1)
   have e0:tg zs ((i:Int)+1-1)=at_ zs i:=by rw[show((i:Int)+1-1)=(i:Int) by omega];exact xp
   have hne:(at_ zs (i+1)=at_ zs i)=False:=eq_false (hs i (by omega))
   simp -implicitDefEqProofs (maxSteps:=9^9) (disch:=omega) only[go_sem,simprocAttr,hg,e1,e0,hne]
   exact(ih _ rfl).ay rfl (by simp[upd,ins,aw,ae])
  ·rintro τ rfl
   simp -implicitDefEqProofs (maxSteps:=9^9) (disch:=omega) only[go_sem,simprocAttr]
   exact h
end Go.Proofs
namespace Go.Proofs
open Go Go.Mu Go.Ins
def aO(L:List (List Int))(h:Int):List Int:=(L.map fun x=>tg x h).filter fun n=>decide (n≠0)
def bT(r:Ros)(h:Int):Int:=if aC r [aM r.hands h]≠0 then aC r [aM r.hands h] else if aO (aE r (aq r)) h=[] then 11 else 0
def sV(r:Ros)(h:Int):List Int:=if bT r h=0 then cu leI (aO (aE r (aq r)) h) else[]
theorem pU{L:List (List Int)}{x:List Int}{h:Int}:aO (L++[x]) h=aO L h++if tg x h=0 then[] else[tg x h]:=by
 unfold aO
 rw[List.map_append,List.filter_append]
 by_cases hz:tg x h=0
 ·simp[hz]
 ·simp[hz]
theorem qW{L:List (List Int)}{h:Int}:(aO L h).length≤L.length:=Nat.le_trans (List.length_filter_le _ _) (by simp)
theorem pL{L M:List (List Int)}{h:Int}(hp:L.Perm M):(aO L h).Perm (aO M h):=(hp.map _).filter _
theorem IY{zs:List Int}(hp:zs.Pairwise leI)(hn:zs.Nodup):∀i,i+1<zs.length→at_ zs (i+1)≠at_ zs i:=by
 intro i hi e
 rw[kn hi,kn (by omega:i<zs.length)] at e
 have:=(List.pairwise_iff_getElem.1 hn) i (i+1) (by omega) hi (by omega)
 exact this e.symm
theorem Jd(r:Ros)(hf:r.Fit)(h:Int)(hE:bT r h=0)(h12:(aO (aE r (aq r)) h).length≤12)(hnd:(aO (aE r (aq r)) h).Nodup):al aV 25 [r.av,.int .i64 h] (.tup [ar (sV r h),.int .i64 0]):=by
 intro σ Q hq
 rw[show sV r h=cu leI (aO (aE r (aq r)) h) from if_pos hE] at hq
 have hk:aC r [aM r.hands h]=0:=by
  unfold bT at hE
  exact Classical.byContradiction fun hc=>by rw[if_pos hc] at hE;exact hc hE
 have hne:aO (aE r (aq r)) h≠[]:=by
  unfold bT at hE
  rw[if_neg (fun hc=>hc hk)] at hE
  intro e
  rw[if_pos e] at hE;cases hE
 clear hE
 refine ao.clean ?_
 refine ao.yl ?_
 refine AcE (Tryz.ah (S:=aV) 47 Tryz.nU dk cx) Tryz.EL Tryz.func25 rfl ?_
 simp only[Ros.av]
 simp -implicitDefEqProofs (maxSteps:=9^9) (disch:=omega) only[go_sem,simprocAttr]
 refine iI r h _ _ ?_
 simp -implicitDefEqProofs (maxSteps:=9^9) (disch:=omega) only[go_sem,simprocAttr]
 refine ao.weaken (l':=[r.av,.list .no 1 ([aM r.hands h].map (.int .i64))]) ⟨⟨rfl,rfl,rfl,rfl,⟨rfl,.inl rfl,.inl rfl⟩,⟨rfl,.inl rfl,.inl rfl⟩,trivial⟩,⟨rfl,.inl rfl,.inl rfl⟩,trivial⟩ ?_
 refine gm r hf [aM r.hands h] (by simp) (fun hE j=>absurd hk hE) (fun hO hg a j ha hm=>?_)
 have hh:=jQ hO
 have hh4:=hg.hands
 have hlen:=gH hg.toHead (ds:=aq r)
 have hokL:=gT hg
 simp only[Ros.wav]
 have hm1:ai (σ++aa.cells [.int .i64 r.hands,.int .i64 r.skill,.int .i64 r.mn,.int .i64 r.mx,.list .no 2 (r.sets.map Sg.av),.list .no 6 (r.ents.map Tn.av)]::(j++[aa.cells [AV.int .i64 r.hands,.int .i64 r.skill,.int .i64 r.mn,.int .i64 r.mx,.list .no 2 (r.sets.map Sg.av),.list .no 6 (r.ents.map Tn.av),.list .no 1 ((aq r).map ar)]])) a=some (.map (bh (aE r (aq r)))):=by
  have:=fD (l:=[aa.cells (r.az (aq r))]) hm;simpa[Ros.az] using this
 generalize aE r (aq r)=L at *
 have hml:(bh L).length=L.length:=by simp[bh]
 simp -implicitDefEqProofs (maxSteps:=9^9) (disch:=omega) only[go_sem,simprocAttr,hm1,hml]
 obtain⟨J,hJ⟩:∃J,aa.cells [.int .i64 r.hands,.int .i64 r.skill,.int .i64 r.mn,.int .i64 r.mx,.list .no 2 (r.sets.map Sg.av),.list .no 6 (r.ents.map Tn.av)]::(j++[aa.cells [AV.int .i64 r.hands,.int .i64 r.skill,.int .i64 r.mn,.int .i64 r.mx,.list .no 2 (r.sets.map Sg.av),.list .no 6 (r.ents.map Tn.av),.list .no 1 ((aq r).map ar)]])=J:=⟨_,rfl⟩
 obtain⟨σ1,hσ1⟩:∃σ1,σ1=σ++J:=⟨_,rfl⟩
 have e1:∀it,σ++aa.cells [.int .i64 r.hands,.int .i64 r.skill,.int .i64 r.mn,.int .i64 r.mx,.list .no 2 (r.sets.map Sg.av),.list .no 6 (r.ents.map Tn.av)]::(j++[aa.cells [AV.int .i64 r.hands,.int .i64 r.skill,.int .i64 r.mn,.int .i64 r.mx,.list .no 2 (r.sets.map Sg.av),.list .no 6 (r.ents.map Tn.av),.list .no 1 ((aq r).map ar)],it])=σ1++[it]:=fun it=>by rw[hσ1,← hJ];simp
 have e2:σ.length+(j.length+1+1)=σ1.length:=by rw[hσ1,← hJ];simp
 rw[e1,e2]
 rw[hJ,← hσ1] at hm1
 have hσf:∀l,∃junk,σ1++l=σ++junk:=fun l=>⟨J++l,by rw[hσ1,List.append_assoc]⟩
 have hσl:σ.length≤σ1.length:=by rw[hσ1];simp
 clear e1 e2 hJ hm ha hσ1
 have hm2:∀l,ai (σ1++l) a=some (.map (bh L)):=fun l=>fD hm1
 refine aj.pQ 9 1 (sz0:=0) rfl (by simp[ae]) ?_
 simp only[ins,↓reduceIte,List.append_assoc,List.cons_append,List.nil_append,List.length_append,List.length_cons,List.length_nil,Nat.zero_add,Nat.reduceEqDiff,Nat.reduceAdd]
 refine aj.eL (Tryz.ah (S:=aV) 47 Tryz.nU dk cx) (α:=List Nat) (fun a=>L.length-a.length) (fun seen τ=>(∃j,τ=σ1++(.iter (some a) L.length seen:: .vec 1 ((aO (seen.map fun i=>L.getD i []) h).map (.int .i64))::j))∧seen.Nodup∧∀i∈seen,i<L.length) (fun seen=>[(9,.vec (σ1.length+1) (aO (seen.map fun i=>L.getD i []) h).length)]) [] (by kernel_rfl) (by simp[upd,ins,aw,ae,aO]) ⟨⟨[],by simp[aO]⟩,by simp,by simp⟩ ?_
 rintro seen τ ⟨⟨j,rfl⟩,hnd',hlt⟩ ih
 have hsl:=eE hnd' hlt
 have hrl:(aO (seen.map fun i=>L.getD i []) h).length≤seen.length:=by
  have:=qW (L:=seen.map fun i=>L.getD i []) (h:=h);simpa using this
 simp -implicitDefEqProofs (maxSteps:=9^9) (disch:=omega) only[go_sem,simprocAttr]
 refine fy (q:=a) (c:=L.length) (seen:=seen) (es:=bh L) (by rw[a8];rfl) (hm2 _) hml.symm (fun i2 k v hi2 hns=>?_) (fun hall=>?_)
 ·obtain⟨x,hx,hkv⟩:∃x,L[i2]? = some x∧(rtv x,AV.bool true)=(k,v):=by simpa[bh] using hi2
  simp only[Prod.mk.injEq] at hkv
  obtain⟨rfl,rfl⟩:=hkv
  have hil:=(List.getElem?_eq_some_iff.1 hx).1
  have hxm:x∈L:=List.mem_of_getElem? hx
  have hok:=hokL x hxm
  have hgd:L.getD i2 []=x:=by rw[List.getD_eq_getElem?_getD,hx];rfl
  have hgl:(seen++[i2]).getLast? = some i2:=by simp
  have hnd2:(seen++[i2]).Nodup:=by
   rw[List.nodup_append]
   exact⟨hnd',by simp,fun a ha b hb e=>by simp at hb;subst hb;exact hns (e▸ha)⟩
  have hlt2:∀i∈seen++[i2],i<L.length:=fun i hi=>by
   rcases List.mem_append.1 hi with hi | hi
   ·exact hlt i hi
   ·simp at hi;omega
  have hsl2:=eE hnd2 hlt2
  rw[List.length_append,List.length_singleton] at hsl2
  have ih2:=ih (seen++[i2])
  have hmm:(seen++[i2]).map (fun i=>L.getD i [])=seen.map (fun i=>L.getD i [])++[x]:=by rw[List.map_append];simp only[List.map_cons,List.map_nil,hgd]
  rw[hmm,pU] at ih2
  clear hmm
  generalize aO (seen.map fun i=>L.getD i []) h=R at hrl ih2⊢
  have hxl:=hok.len
  obtain⟨b,c,e,f,hxe⟩:=mF hok.len
  have hi3:(bh L)[i2]? = some (.agg [.int .i64 b,.int .i64 c,.int .i64 e,.int .i64 f],.bool true):=by rw[hi2,hxe];rfl
  have hxx:[AV.int .i64 b,.int .i64 c,.int .i64 e,.int .i64 f]=x.map (AV.int .i64):=by rw[hxe];rfl
  rw[hxx] at hi3
  have hput:putAt 0 (x.map (AV.int .i64)) [.int .i64 0,.int .i64 0,.int .i64 0,.int .i64 0]=x.map (AV.int .i64):=by rw[hxe];rfl
  by_cases hz:tg x h=0
  ·rw[if_pos hz,List.append_nil] at ih2
   have hz':(tg x h=0)=True:=eq_true hz
   simp -implicitDefEqProofs (maxSteps:=9^9) (disch:=omega) only[go_sem,simprocAttr,hm2,hgl,hi3,hml,hput,hz']
   exact(ih2 _ (by rw[List.length_append,List.length_singleton];omega) ⟨⟨j++[.cells (x.map (.int .i64))],rfl⟩,hnd2,hlt2⟩).ay rfl (by simp[upd,ins,aw,ae])
  ·rw[if_neg hz] at ih2
   have hz':(tg x h=0)=False:=eq_false hz
   simp -implicitDefEqProofs (maxSteps:=9^9) (disch:=omega) only[go_sem,simprocAttr,hm2,hgl,hi3,hml,hput,hz']
   exact(ih2 _ (by rw[List.length_append,List.length_singleton];omega) ⟨⟨j++[.cells (x.map (.int .i64))],rfl⟩,hnd2,hlt2⟩).ay (by simp) (by simp[upd,ins,aw,ae])
 ·have hall':∀i,i<L.length→i∈seen:=fun i hi=>hall i (by rw[hml];exact hi)
  have hps:=pL (h:=h) (kA ([]:List Int) hnd' hlt hall')
  have hso:cu leI (aO (seen.map fun i=>L.getD i []) h)=cu leI (aO L h):=
   iM dO fe oI (eZ dO fe _) ((de _).trans hps)
  have hnd3:(cu leI (aO L h)).Nodup:=(de _).nodup_iff.2 hnd
  have hst:=IY (eZ dO fe (aO L h)) hnd3
  have hil2:=(de (le:=leI) (aO L h)).length_eq
  have hl2:=hps.length_eq
  have hpos:0<(aO L h).length:=List.length_pos_iff.2 hne
  rw[← hso] at hst hil2 hq
  clear hnd3 hnd hne ih hps hso
  generalize aO (seen.map fun i=>L.getD i []) h=R at *
  have hn0:((R.length:Int)=0)=False:=eq_false (by omega)
  simp -implicitDefEqProofs (maxSteps:=9^9) (disch:=omega) only[go_sem,simprocAttr,hn0]
  refine OU R (by omega) (by omega) (by rw[aZ];rfl) ?_
  simp -implicitDefEqProofs (maxSteps:=9^9) (disch:=omega) only[go_sem,simprocAttr]
  have hRl:R.length=(cu leI R).length:=by omega
  rw[hRl]
  refine DM (cu leI R) (by omega) hst (by rw[aZ];rfl) ?_
  simp -implicitDefEqProofs (maxSteps:=9^9) (disch:=omega) only[go_sem,simprocAttr]
  refine⟨_,0,σ1.length+1,1,(cu leI R).map (.int .i64),rfl,by simp,by rw[aZ];rfl,?_⟩
  rw[fI]
  refine⟨_,_,(hσf _).choose_spec,dI.refl _,?_,hq⟩
  exact(Plain.tup (by simp;exact⟨Plain.ints,.int⟩)) _
/-! The chapter's examples: what the kernel reckons. -/
def tB(r:Ros)(ds:List (List Int))(many:Nat):List (List Int):=((List.range (2^r.hands.toNat)).filter fun s=>kF s==many).flatMap (dw r ds)
def Dm(r:Ros)(ds:List (List Int)):Nat→Nat→List (List Int)
 | 0,_=>[]
 | n+1,k=>if tB r ds k=[] then Dm r ds n (k+1) else(tB r ds k).foldl cM []
theorem IW{r:Ros}(hr:r.hands.toNat≤4){ds:List (List Int)}{many:Nat}:cf r ds many=tB r ds many:=by
 unfold cf eD tB
 congr 1
 refine List.filter_congr fun s hs=>?_
 have hp:(2:Nat)^r.hands.toNat≤2^4:=Nat.pow_le_pow_right (by omega) hr
 rw[gZ s (by have:=List.mem_range.1 hs;omega)]
theorem rC{r:Ros}(hr:r.hands.toNat≤4){ds:List (List Int)}:∀n k,fO r ds n k=Dm r ds n k
 | 0,k=>rfl
 | n+1,k=>by simp only[fO,Dm,IW hr,rC hr n (k+1)]
theorem lN{x:Tn}{h:Int}(h1:0≤x.day∧x.day≤60)(h2: -1≤x.hand∧x.hand≤h-1)(h3:1≤x.due∧x.due≤100000)(hk:ck x.ear=0)(ht:x.ear.tones.length=1)(hn:aF x.ear≠[]) :
  bS x h=((aQ ((aF x.ear).map fun t=>tg t 0)).map (· - x.due),0):=by
 have ha:c8 x.ear (dq x.ear 0)=(aF x.ear,0):=by
  have h0:dq x.ear 0=0:=by unfold dq;rw[if_pos (by omega)]
  unfold c8 cy
  rw[if_neg (by simp[hk]),if_neg (by simp[h0]),if_neg (by simp[hk]),if_neg hn]
 unfold bS bC
 rw[if_neg (fun c=>c h1),if_neg (fun c=>c h2),if_neg (fun c=>c h3),if_neg (fun c=>c hk),if_neg (by omega),ha]
 simp only[if_true]
 rw[qc (vk (dQ hk) ht).1]
def tnd(day by_ due lo hi:Int):Tn:=⟨day,by_,due,⟨0,[⟨lo,hi⟩],[]⟩⟩
def cV:Ros:=⟨2,3, -2,2,[],[tnd 5 0 44000 44008 44012,tnd 4 (-1) 44000 43996 43997,tnd 4 (-1) 44000 44003 44003]⟩
def gU:Ros:=⟨2,3, -2,2,[],[tnd 5 (-1) 44000 44008 44012]⟩
theorem c1:bS (tnd 5 0 44000 44008 44012) 2=([8,9,10,11,12],0):=by
 rw[lN (by decide) (by decide) (by decide) (by kernel_rfl) (by kernel_rfl) (by decide +kernel)]
 decide +kernel
theorem c2:bS (tnd 4 (-1) 44000 43996 43997) 2=([-4, -3],0):=by
 rw[lN (by decide) (by decide) (by decide) (by kernel_rfl) (by kernel_rfl) (by decide +kernel)]
 decide +kernel
theorem c3:bS (tnd 4 (-1) 44000 44003 44003) 2=([3],0):=by
 rw[lN (by decide) (by decide) (by decide) (by kernel_rfl) (by kernel_rfl) (by decide +kernel)]
 decide +kernel
theorem c4:bS (tnd 5 (-1) 44000 44008 44012) 2=([8,9,10,11,12],0):=by
 rw[lN (by decide) (by decide) (by decide) (by kernel_rfl) (by kernel_rfl) (by decide +kernel)]
 decide +kernel
theorem Oa:aq cV=[[8,9,10,11,12],[-4, -3],[3]]:=by
 simp only[aq,cV,List.map_cons,List.map_nil,c1,c2,c3]
theorem Qe:gA cV=0:=by
 simp only[gA,cV,List.map_cons,List.map_nil,c1,c2,c3];rfl
theorem O5:aq gU=[[8,9,10,11,12]]:=by
 simp only[aq,gU,List.map_cons,List.map_nil,c4]
theorem Ri:gA gU=0:=by
 simp only[gA,gU,List.map_cons,List.map_nil,c4];rfl
theorem pb:aE cV (aq cV)=[[1,0,0,0],[2,0,0,0]]:=by
 rw[Oa];unfold aE;rw[rC (by decide)];decide +kernel
theorem GU:aE gU (aq gU)=[[1,0,0,0],[2,0,0,0],[0,1,0,0],[0,2,0,0]]:=by
 rw[O5];unfold aE;rw[rC (by decide)];decide +kernel
theorem Ol:bP cV=0:=by
 unfold bP;rw[if_neg (by decide +kernel)];exact Qe
theorem OD:bP gU=0:=by
 unfold bP;rw[if_neg (by decide +kernel)];exact Ri
theorem nq{ws:List Int}(h:bn ws=0):aC cV ws=0:=by
 unfold aC;rw[if_neg (fun c=>c Ol),if_neg (fun c=>c h),pb];rfl
theorem Ge{ws:List Int}(h:bn ws=0):aC gU ws=0:=by
 unfold aC;rw[if_neg (fun c=>c OD),if_neg (fun c=>c h),GU];rfl
theorem JI:dV gU=[[0],[1]]:=by
 unfold dV;rw[if_pos (Ge rfl),GU];decide +kernel
theorem LJ:dV cV=[[0]]:=by
 unfold dV;rw[if_pos (nq rfl),pb];decide +kernel
theorem GS:jq cV=[1,2]:=by
 unfold jq;rw[if_pos (nq rfl),LJ];decide +kernel
theorem Ic:aM 2 0=0:=by decide +kernel
theorem n7:aO (aE cV (aq cV)) 0=[1,2]:=by rw[pb];decide +kernel
theorem BN:bT cV 0=0:=by
 unfold bT;rw[if_neg (fun c=>c (nq (by rw[show cV.hands=2 from rfl,Ic];rfl))),n7];rfl
theorem OL:sV cV 0=[1,2]:=by
 unfold sV;rw[if_pos BN,n7];decide +kernel
theorem BR:tf cV 0 10 44000=0:=by
 unfold tf;exact nq (by decide +kernel)
theorem PM:tM cV 0 10 44000=(44007,44023):=by
 unfold tM;rw[if_pos BR,pb];decide +kernel
theorem BX:qm cV 0 5=0:=by
 unfold qm;exact nq (by decide +kernel)
theorem OR:tw cV 0 5=2:=by
 unfold tw;rw[if_pos BX,pb];decide +kernel
end Go.Proofs
namespace Go.Proofs
open Go Go.Mu
variable {S:MC Tryz.prog}
theorem uU(e:Ear):(⟨e.slack,e.tones,e.rds⟩: Ear)=e:=rfl
theorem Ko{a b:Int}:Plain (.tup [.int .i64 a,.int .i64 b]):= .tup (by simp;exact⟨.int,.int⟩)
theorem Ls{m x w:Int}(h:iy m x w=0):(0≤x∧x≤m-1)∧0≤w:=by unfold iy at h;grind
theorem Qy(e:Ear)(x width:Int)(h1:e.tones.length≤4294967296)(h2:e.rds.length≤4294967296):al S 133 [e.av,.int .i64 x,.int .i64 width] (.tup [.int .i64 (kN e x width).1,.int .i64 (kN e x width).2]):=by
 refine PvE (Tryz.ah (S:=S) 63 (fun _=>([],[])) fs9 tq) (Ko) Tryz.MD Tryz.func133 rfl ?_
 intro σ
 simp only[Ear.av]
 by_cases hk:(c8 e (iy e.tones.length x width)).2=0
 ·obtain⟨hc,hw,hn,hke⟩:=qC hk
  rw[hw] at hke
  have he:=dQ hc
  obtain⟨hx,hwd⟩:=Ls hw
  have hlen:=he.len
  have htl:=eo he
  have hx2:0≤x∧x≤2:=by omega
  have hke':c8 ⟨e.slack,e.tones,e.rds⟩ 0=(aF e,0):=hke
  simp -implicitDefEqProofs (maxSteps:=9^9) (disch:=omega) only[go_sem,simprocAttr,hke',eI]
  refine aj.bE (Tryz.ah (S:=S) 63 (fun _=>([],[])) fs9 tq) 20 (fun i=>∀k,k<i→l7 e.slack (aF e) x width (k+1)=false) (fun i=>[(11,.int .i64 ((i:Int)+1))]) (fun _ j=>σ++(.cells e.cells:: .cells [.int .i64 x]::j)) [] (by kernel_rfl) (by simp[Ear.cells]) (by simp[upd,ins,aw,ae]) (by simp) ?_ ?_
  ·intro i j hi hP ih
   have hr:okR ⟨1,x,0,(i:Int)+1,⟨0,0⟩⟩:=⟨by simp only;omega,hx2,by simp only;omega,by simp only;omega,by simp only;omega,by simp only;omega⟩
   simp -implicitDefEqProofs (maxSteps:=9^9) (disch:=omega) only[go_sem,simprocAttr,Ear.cells,vM]
   refine DW ⟨1,x,0,(i:Int)+1,⟨0,0⟩⟩ e.slack (aF e) hr he.sl (by omega) (ei he) _ _ fun τ m hO hm=>?_
   have hmap:=hO.map
   have hlenS:=hO.len
   have hold:=hO.old
   have hs0:=hold σ.length (by simp)
   have hs1:=hold (σ.length+1) (by simp)
   rw[a8] at hs0
   rw[aZ] at hs1
   simp only[List.getElem?_cons_zero,List.getElem?_cons_succ] at hs0 hs1
   simp only[List.length_append,List.length_cons] at hmap hlenS hold
   generalize hrm:σ.length+(j.length+1+1)=rm at hmap hlenS hold
   have hml:(ez m).length=m.length:=by simp[ez]
   simp -implicitDefEqProofs (maxSteps:=9^9) (disch:=omega) only[go_sem,simprocAttr,hmap,hrm,hml]
   let Ok (i2:Nat):Prop:=∀p,m[i2]? = some p→(bH (fun t=>tg t x) p.2.2).hi- (bH (fun t=>tg t x) p.2.2).lo≤width
   refine aj.eL (Tryz.ah (S:=S) 63 (fun _=>([],[])) fs9 tq) (α:=List Nat) (fun seen=>m.length-seen.length) (fun seen τ'=>τ.length<τ'.length∧(∀q,q<σ.length→ai τ' q=ai σ q)∧ai τ' σ.length=some (.cells e.cells)∧ai τ' (σ.length+1)=some (.cells [.int .i64 x])∧ai τ' rm=some (.map (ez m))∧ai τ' τ.length=some (.iter (some rm) m.length seen)∧seen.Nodup∧(∀i2∈seen,i2<m.length∧Ok i2)) (fun _=>[]) [] (by kernel_rfl) (by simp[upd,ins,aw,ae]) ?_ ?_
   ·refine⟨by simp,fun q hq=>?_,?_,?_,?_,a8,by simp,by simp⟩
    ·rw[aB (by omega),hold q (by omega),aB hq]
    ·rw[aB (by omega)];exact hs0
    ·rw[aB (by omega)];exact hs1
    ·rw[aB (by omega)];exact hmap
   ·rintro seen τ' ⟨j1,j2,j3,j4,j5,j6,j7,j8⟩ ih2
    simp -implicitDefEqProofs (maxSteps:=9^9) (disch:=omega) only[go_sem,simprocAttr]
    refine fy j6 j5 hml.symm (fun i2 k v hi2 hns=>?_) (fun hall=>?_)
    ·obtain⟨p,hp,hkv⟩:∃p,m[i2]? = some p∧(AV.int .i64 p.1,AV.list (.own p.2.1) 3 (p.2.2.map tav))=(k,v):=by simpa[ez] using hi2
     simp only[Prod.mk.injEq] at hkv
     obtain⟨rfl,rfl⟩:=hkv
     have hpm:p∈m:=List.mem_of_getElem? hp
     obtain⟨hi2l,_⟩:=List.getElem?_eq_some_iff.1 hp
     have hpo:(p.1,p.2.2)∈mb ⟨1,x,0,(i:Int)+1,⟨0,0⟩⟩ e.slack (aF e):=by rw[← hm];exact List.mem_map.2 ⟨p,hpm,rfl⟩
     obtain⟨hne,hsub⟩:=zd _ hpo
     simp only at hne hsub
     have htlp:=(hO.tl p hpm).2.2
     have hsm:∀t∈p.2.2,t.length=3∧small t:=fun t ht=>ei he t (hsub t ht)
     obtain⟨b1,b2,b3,b4⟩:=Bj (fun t ht=>(hsm t ht).2) hne x
     have hrτ:rm<τ.length:=aN hmap
     have k1:ai (ax τ' τ.length (.iter (some rm) m.length (seen++[i2]))) τ.length=some (.iter (some rm) m.length (seen++[i2])):=cN j6 _
     have k2:∀q,q≠τ.length→ai (ax τ' τ.length (.iter (some rm) m.length (seen++[i2]))) q=ai τ' q:=fun q hq=>bt (fun e=>hq e.symm)
     have k3:(ax τ' τ.length (.iter (some rm) m.length (seen++[i2]))).length=τ'.length:=aJ
     generalize ax τ' τ.length (.iter (some rm) m.length (seen++[i2]))=τ1 at k1 k2 k3⊢
     have k5:ai τ1 rm=some (.map (ez m)):=by rw[k2 _ (by omega)];exact j5
     have k6:ai τ1 (σ.length+1)=some (.cells [.int .i64 x]):=by rw[k2 _ (by omega)];exact j4
     have hgl:(seen++[i2]).getLast? = some i2:=by simp
     simp -implicitDefEqProofs (maxSteps:=9^9) (disch:=omega) only[go_sem,simprocAttr,k1,k5,hgl,hi2,hml]
     refine ao.weaken (l':=[eI p.2.2,.fn (.func 171) [] [.ptr (σ.length+1) 0]]) ⟨⟨rfl,.inl rfl,.inl rfl⟩,rfl,trivial⟩ (HZ (fun t=>tg t x) p.2.2 hne (by omega) (fun t ht=>(hsm t ht).1) (fun t ht=>Pn k6 hx2 (hsm t ht).1) _ ?_)
     by_cases hcmp:width<(bH (fun t=>tg t x) p.2.2).hi- (bH (fun t=>tg t x) p.2.2).lo
     ·simp -implicitDefEqProofs (maxSteps:=9^9) (disch:=omega) only[go_sem,simprocAttr,Rng.av]
      have hg:l7 e.slack (aF e) x width ((i:Int)+1)=false:=by
       unfold l7
       rw[List.all_eq_false]
       exact⟨_,hpo,by simp only[decide_eq_true_eq];omega⟩
      obtain⟨j',hj'⟩:=qR (σ:=σ++[.cells e.cells,.cells [.int .i64 x]]) (τ:=τ1++[.cells [.int .i64 (bH (fun t=>tg t x) p.2.2).lo,.int .i64 (bH (fun t=>tg t x) p.2.2).hi]]) (by simp;omega) (fun q hq=>by
       simp only[List.length_append,List.length_cons,List.length_nil] at hq
       rw[aB (by omega),k2 _ (by omega)]
       rcases(by omega:q<σ.length∨q=σ.length∨q=σ.length+1) with hq' | rfl | rfl
       ·rw[j2 q hq',aB hq']
       ·rw[j3,a8];rfl
       ·rw[j4,aZ];rfl)
      rw[hj',List.append_assoc]
      refine(ih (fun k hk2=>?_) j').ay rfl (by simp[upd,ins,aw,ae])
      rcases(by omega:k<i∨k=i) with hk3 | rfl
      ·exact hP k hk3
      ·exact hg
     ·simp -implicitDefEqProofs (maxSteps:=9^9) (disch:=omega) only[go_sem,simprocAttr,Rng.av]
      have hnd:(seen++[i2]).Nodup:=by
       rw[List.nodup_append]
       exact⟨j7,by simp,fun a ha b hb e=>by simp at hb;subst hb;exact hns (e▸ha)⟩
      have hall2:∀i3∈seen++[i2],i3<m.length∧Ok i3:=fun i3 h3=>by
       rcases List.mem_append.1 h3 with h3 | h3
       ·exact j8 i3 h3
       ·simp at h3;subst h3
        refine⟨hi2l,fun p' hp'=>?_⟩
        rw[hp] at hp';simp at hp';subst hp';omega
      have hcard:=r7 hnd (fun i3 h3=>(hall2 i3 h3).1)
      simp only[List.length_append,List.length_cons,List.length_nil] at hcard
      refine(ih2 (seen++[i2]) _ (by simp only[List.length_append,List.length_cons,List.length_nil];omega) ⟨by simp;omega,fun q hq=>by rw[aB (by omega),k2 _ (by omega)];exact j2 q hq,by rw[aB (by omega),k2 _ (by omega)];exact j3,by rw[aB (by omega)];exact k6,by rw[aB (by omega)];exact k5,by rw[aB (by omega)];exact k1,hnd,hall2⟩).ay rfl (by simp[upd,ins,aw,ae])
    ·have hg:l7 e.slack (aF e) x width ((i:Int)+1)=true:=by
      unfold l7
      rw[List.all_eq_true]
      intro p' hp'
      rw[← hm] at hp'
      obtain⟨p,hp,rfl⟩:=List.mem_map.1 hp'
      obtain⟨i2,hi2,rfl⟩:=List.mem_iff_getElem.1 hp
      have:=(j8 i2 (hall i2 (by rw[hml];exact hi2))).2 _ (List.getElem?_eq_getElem hi2)
      simpa using this
     have hf:=Dk (f:=fun k:Nat=>l7 e.slack (aF e) x width (k+1)) hi hP hg
     simp -implicitDefEqProofs (maxSteps:=9^9) (disch:=omega) only[go_sem,simprocAttr]
     refine oi (by omega) (fun q hq=>j2 q hq) ?_
     simp[kN,hk,hf,wk,wkL,wk1,wk0]
  ·intro j hP
   have hf:=H5 (f:=fun k:Nat=>l7 e.slack (aF e) x width (k+1)) (n:=20) hP
   simp -implicitDefEqProofs (maxSteps:=9^9) (disch:=omega) only[go_sem,simprocAttr]
   simp[kN,hk,hf]
 ·have hk':¬(c8 ⟨e.slack,e.tones,e.rds⟩ (iy e.tones.length x width)).2=0:=hk
  by_cases hx:0≤x∧x≤(e.tones.length:Int)-1
  ·by_cases hw:width<0
   ·have hv:iy e.tones.length x width=1:=by simp[iy,hx,hw]
    rw[hv] at hk'
    simp -implicitDefEqProofs (maxSteps:=9^9) (disch:=omega) only[go_sem,simprocAttr,hk',eI]
    rw[hv] at hk
    simp[kN,hk,hv,uU]
   ·have hv:iy e.tones.length x width=0:=by simp[iy,hx,hw]
    rw[hv] at hk'
    simp -implicitDefEqProofs (maxSteps:=9^9) (disch:=omega) only[go_sem,simprocAttr,hk',eI]
    rw[hv] at hk
    simp[kN,hk,hv,uU]
  ·have hv:iy e.tones.length x width=3:=by unfold iy;rw[if_neg hx]
   rw[hv] at hk'
   simp -implicitDefEqProofs (maxSteps:=9^9) (disch:=omega) only[go_sem,simprocAttr,hk',eI,hx]
   rw[hv] at hk
   simp[kN,hk,hv,uU]
def yh:=jk lp tI tI fun e a b=>if e.tones.length≤4294967296∧e.rds.length≤4294967296 then some (.tup [.int .i64 (kN e a b).1,.int .i64 (kN e a b).2]) else none
theorem Oi:∀xs v,yh xs=some v→al S 133 xs v:=
 gM fun e a b v h=>by have h:=b7 h;rw[← h.2];exact Qy e a b h.1.1 h.1.2
def E8(f:FuncId)(xs:List AV):Option AV:=if f=133 then yh xs else fs9 f xs
theorem OM{S:MC Tryz.prog}:∀f xs v,E8 f xs=some v→al S f xs v:=by
 intro f xs v h
 unfold E8 at h
 split at h
 ·rename_i e;subst e;exact Oi _ _ h
 exact tq _ _ _ h
attribute [go_sem] E8 yh
end Go.Proofs
namespace Go.Proofs
open Go Go.Mu
end Go.Proofs
namespace Go.Proofs
open Go Go.Mu
variable {S:MC Tryz.prog}
def Em(f:FuncId)(xs:List AV):Option AV:=  E8 f xs
theorem OT{S:MC Tryz.prog}:∀f xs v,Em f xs=some v→al S f xs v:=by
 intro f xs v h
 unfold Em at h
 exact OM _ _ _ h
attribute [go_sem] Em
def Du(f:FuncId)(xs:List AV):Option AV:=  Em f xs
theorem OO{S:MC Tryz.prog}:∀f xs v,Du f xs=some v→al S f xs v:=by
 intro f xs v h
 unfold Du at h
 exact OT _ _ _ h
attribute [go_sem] Du
theorem Ear.plain(e:Ear):Plain e.av:= .agg (by simp;exact⟨.int,.map fun x _=>Rng.plain x,.map fun x _=>Rd.plain x⟩)
def CE(f:FuncId)(xs:List AV):Option AV:=  Du f xs
theorem PC{S:MC Tryz.prog}:∀f xs v,CE f xs=some v→al S f xs v:=by
 intro f xs v h
 unfold CE at h
 exact OO _ _ _ h
attribute [go_sem] CE
end Go.Proofs
