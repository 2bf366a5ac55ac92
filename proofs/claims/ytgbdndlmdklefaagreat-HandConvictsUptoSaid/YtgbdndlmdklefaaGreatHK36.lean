/- The environment in which the first append to an empty literal of some types gives a slice that is written into. -/
import Derived.Test.YtgbdndlmdklefaaGreatHK35
import Derived.Test.YtgbdndlmdklefaaGreatHK15
import Derived.Test.YtgbdndlmdklefaaGreatHK16
import Derived.Test.YtgbdndlmdklefaaGreatHK33
import Derived.Test.YtgbdndlmdklefaaGreatHK34
import Derived.Test.YtgbdndlmdklefaaGreatHK30
import Derived.Test.YtgbdndlmdklefaaGreatHK13
import Derived.Test.YtgbdndlmdklefaaGreatHK29
set_option linter.unusedSimpArgs false
set_option linter.unusedVariables false
set_option maxRecDepth 100000
set_option maxHeartbeats 40000000
namespace Go.Proofs
open Go Go.Mu
variable {S:MC Tryz.prog}
theorem mh.congr{r r2:Ros}{rates:List Int}{w:Int}{x:Tn}{b:Int}(h:mh r rates w x b)(h1:r2.hands=r.hands)(h2:r2.skill=r.skill)(h3:r2.sets=r.sets):mh r2 rates w x b:=by
 obtain⟨t,lo,hi,rds,g1,g2,g3,g4⟩:=h.ear
 refine⟨by rw[h1];exact h.by_in,h.day,h.hand,h.due,t,lo,hi,rds,?_,g2,g3,g4⟩
 have:cS r2 rates b x.day=cS r rates b x.day:=by unfold cS;rw[h3]
 rw[this,h2];exact g1
structure kZ(H E w:Int)(r:Ros)(rates by_:List Int):Prop where
 hands:1≤r.hands∧r.hands≤H
 skill:0≤r.skill∧r.skill≤3
 mn: -3≤r.mn∧r.mn≤1
 mx:1≤r.mx∧r.mx≤3
 rl:(rates.length:Int)=r.hands
 rate:∀n∈rates,n=0∨(r.mn≤n∧n≤r.mx)
 sl:r.sets.length≤2
 set:∀s∈r.sets,(0≤s.hand∧s.hand<r.hands)∧0≤s.day∧s.day≤9
 el:(r.ents.length:Int)≤E
 bl:by_.length=r.ents.length
 ent:∀i (h:i<r.ents.length) (h':i<by_.length),mh r rates w r.ents[i] by_[i]
def kH(h s a b:Int)(ss es:AV):aa:= .cells [.int .i64 h,.int .i64 s,.int .i64 a,.int .i64 b,ss,es]
theorem Dy(p:Nat)(H E w:Int)(hH:1≤H∧H≤4)(hE:0≤E∧E≤5)(hw:0≤w∧w≤10)(σ:List aa)(hp:dS σ p)(Q:AV→List aa→Prop)(h:∀s' r rates by_ junk,kZ H E w r rates by_→Q (.tup [r.av,l6 rates by_]) (pw σ p s'++junk)) :
  ao S 20 [.ptr p 0,.int .i64 H,.int .i64 E,.int .i64 w] σ Q:=by
 refine ao.wkW ?_
 refine AcE (Tryz.ah (S:=S) 106 Tryz.uh fs0 aD) Tryz.Ra Tryz.func20 rfl ?_
 have hpl:=hp.lt1
 simp -implicitDefEqProofs (maxSteps:=9^9) (disch:=omega) only[go_sem,simprocAttr]
 refine jV p 1 H (by omega) (by omega) _ hp.app1 _ fun s1 hands b1 b2=>?_
 rw[u0 hpl]
 have hhd:1≤hands∧hands≤H:=by omega
 clear b1 b2
 simp -implicitDefEqProofs (maxSteps:=9^9) (disch:=omega) only[go_sem,simprocAttr,aK,bd,ba,bc,aX]
 refine gf p 3 (by omega) _ (hp.pw _).app1 _ fun s2 skill d1 d2=>?_
 rw[dj hpl]
 have hsk:0≤skill∧skill≤3:=by omega
 clear d1 d2
 simp -implicitDefEqProofs (maxSteps:=9^9) (disch:=omega) only[go_sem,simprocAttr,aK,bd,ba,bc,aX]
 refine jV p (-3) 1 (by omega) (by omega) _ (hp.pw _).app1 _ fun s3 mn e1 e2=>?_
 rw[dj hpl]
 have hmn: -3≤mn∧mn≤1:=by omega
 clear e1 e2
 simp -implicitDefEqProofs (maxSteps:=9^9) (disch:=omega) only[go_sem,simprocAttr,aK,bd,ba,bc,aX]
 refine jV p 1 3 (by omega) (by omega) _ (hp.pw _).app1 _ fun s4 mx f1 f2=>?_
 rw[dj hpl]
 have hmx:1≤mx∧mx≤3:=by omega
 clear f1 f2
 simp -implicitDefEqProofs (maxSteps:=9^9) (disch:=omega) only[go_sem,simprocAttr,aK,bd,ba,bc,aX]
 refine aj.sR (σ.length+3) 0 1 (by rw[ba];rfl) rfl ?_
 simp only[aX,List.set_cons_succ,List.set_cons_zero,List.append_assoc,List.cons_append,List.nil_append,List.length_append,List.length_cons,List.length_nil,Nat.zero_add,Nat.reduceAdd,aK]
 refine aj.eL (Tryz.ah (S:=S) 106 Tryz.uh fs0 aD) (α:=List Int) (fun L=>hands.toNat-L.length)
  (fun L τ=>(∃s,τ=pw σ p s++[kH 0 0 0 0 (.list .full 0 []) (.list .full 0 []),.cells [.list .full 0 [],.list .full 0 []],kH hands skill mn mx (.list .full 0 []) (.list .full 0 []),.cells [.list (.own (σ.length+4)) 1 (L.map (.int .i64)),.list .full 0 []],.tail L.length 1])∧(L.length:Int)≤hands∧∀n∈L,n=0∨(mn≤n∧n≤mx))
  (fun L=>[(12,.int .i64 (L.length:Int))]) [] (by kernel_rfl) (by simp[upd,ins,aw,ae]) ⟨⟨s4,by simp[kH]⟩,by simp;omega,by simp⟩ ?_
 rintro L τ ⟨⟨s5,rfl⟩,hL1,hL2⟩ ih
 simp only[kH] at ih⊢
 by_cases hlt:(L.length:Int)<hands
 ·have hlt':((L.length:Int)<hands)=True:=eq_true hlt
  have hwl:IntKind.i64.wrap ((L.length:Int)+1)=(L.length:Int)+1:=wrap64 (by omega) (by omega)
  simp -implicitDefEqProofs (maxSteps:=9^9) (disch:=omega) only[go_sem,simprocAttr,aK,bd,ba,bc,aX,hlt']
  refine sY p 1 3 (by omega) (by omega) _ (hp.pw _).app1 _ fun s6 q1=>?_
  rw[dj hpl]
  cases q1
  ·simp -implicitDefEqProofs (maxSteps:=9^9) (disch:=omega) only[go_sem,simprocAttr,aK,bd,ba,bc,aX,hwl]
   refine(ih (L++[0]) _ (by rw[List.length_append,List.length_singleton];omega) ⟨⟨s6,rfl⟩,by rw[List.length_append,List.length_singleton];omega,fun n hn=>?_⟩).ay (by simp) (by simp[upd,ins,aw,ae])
   rcases List.mem_append.1 hn with hn | hn
   ·exact hL2 n hn
   ·simp at hn;exact .inl hn
  ·simp -implicitDefEqProofs (maxSteps:=9^9) (disch:=omega) only[go_sem,simprocAttr,aK,bd,ba,bc,aX,hwl]
   refine jV p mn mx (by omega) (by omega) _ (hp.pw _).app1 _ fun s7 n n1 n2=>?_
   rw[dj hpl]
   simp -implicitDefEqProofs (maxSteps:=9^9) (disch:=omega) only[go_sem,simprocAttr,aK,bd,ba,bc,aX,hwl]
   refine(ih (L++[n]) _ (by rw[List.length_append,List.length_singleton];omega) ⟨⟨s7,rfl⟩,by rw[List.length_append,List.length_singleton];omega,fun m hm=>?_⟩).ay (by simp) (by simp[upd,ins,aw,ae])
   rcases List.mem_append.1 hm with hm | hm
   ·exact hL2 m hm
   ·simp at hm;subst hm;exact .inr (by omega)
 ·have hlt':((L.length:Int)<hands)=False:=eq_false hlt
  have hLl:(L.length:Int)=hands:=by omega
  clear ih hlt
  simp -implicitDefEqProofs (maxSteps:=9^9) (disch:=omega) only[go_sem,simprocAttr,aK,bd,ba,bc,aX,hlt']
  clear hlt'
  refine gf p 2 (by omega) _ (hp.pw _).app1 _ fun s6 m m1 m2=>?_
  rw[dj hpl]
  have hm:0≤m∧m≤2:=by omega
  clear m1 m2
  simp -implicitDefEqProofs (maxSteps:=9^9) (disch:=omega) only[go_sem,simprocAttr,aK,bd,ba,bc,aX]
  refine aj.sR (σ.length+2) 4 2 (by rw[ba];rfl) rfl ?_
  simp only[aX,List.set_cons_succ,List.set_cons_zero,List.append_assoc,List.cons_append,List.nil_append,List.length_append,List.length_cons,List.length_nil,Nat.zero_add,Nat.reduceAdd,aK]
  refine aj.eL (Tryz.ah (S:=S) 106 Tryz.uh fs0 aD) (α:=List Sg) (fun Z=>m.toNat-Z.length)
   (fun Z τ=>(∃s,τ=pw σ p s++[kH 0 0 0 0 (.list .full 0 []) (.list .full 0 []),.cells [.list .full 0 [],.list .full 0 []],kH hands skill mn mx (.list (.own (σ.length+5)) 2 (Z.map Sg.av)) (.list .full 0 []),.cells [.list (.own (σ.length+4)) 1 (L.map (.int .i64)),.list .full 0 []],.tail L.length 1,.tail Z.length 2])∧(Z.length:Int)≤m∧∀s∈Z,(0≤s.hand∧s.hand<hands)∧0≤s.day∧s.day≤9)
   (fun Z=>[(14,.int .i64 (m- (Z.length:Int)))]) [] (by kernel_rfl) (by simp[upd,ins,aw,ae]) ⟨⟨s6,by simp[kH]⟩,by simp;omega,by simp⟩ ?_
  rintro Z τ ⟨⟨s7,rfl⟩,hZ1,hZ2⟩ ih
  simp only[kH] at ih⊢
  have hwh:IntKind.i64.wrap (hands-1)=hands-1:=wrap64 (by omega) (by omega)
  by_cases hlt:0<m- (Z.length:Int)
  ·have hlt':(0<m- (Z.length:Int))=True:=eq_true hlt
   have hwm:IntKind.i64.wrap (m- (Z.length:Int)-1)=m- (Z.length:Int)-1:=wrap64 (by omega) (by omega)
   simp -implicitDefEqProofs (maxSteps:=9^9) (disch:=omega) only[go_sem,simprocAttr,aK,bd,ba,bc,aX,hlt',hwh]
   refine gf p (hands-1) (by omega) _ (hp.pw _).app1 _ fun s8 x x1 x2=>?_
   rw[dj hpl]
   have hx:0≤x∧x<hands:=by omega
   clear x1 x2
   simp -implicitDefEqProofs (maxSteps:=9^9) (disch:=omega) only[go_sem,simprocAttr,aK,bd,ba,bc,aX,hlt',hwh]
   refine gf p 9 (by omega) _ (hp.pw _).app1 _ fun s9 y y1 y2=>?_
   rw[dj hpl]
   have hy:0≤y∧y≤9:=by omega
   clear y1 y2
   simp -implicitDefEqProofs (maxSteps:=9^9) (disch:=omega) only[go_sem,simprocAttr,aK,bd,ba,bc,aX,hlt',hwh,hwm]
   refine(ih (Z++[⟨x,y⟩]) _ (by rw[List.length_append,List.length_singleton];omega) ⟨⟨s9,rfl⟩,by rw[List.length_append,List.length_singleton];omega,fun z hz=>?_⟩).ay (by simp[Sg.av]) (by simp[upd,ins,aw,ae];omega)
   rcases List.mem_append.1 hz with hz | hz
   ·exact hZ2 z hz
   ·simp at hz;subst hz;exact⟨hx,hy⟩
  ·have hlt':(0<m- (Z.length:Int))=False:=eq_false hlt
   have hZl:Z.length≤2:=by omega
   clear ih hlt
   simp -implicitDefEqProofs (maxSteps:=9^9) (disch:=omega) only[go_sem,simprocAttr,aK,bd,ba,bc,aX,hlt']
   clear hlt' hZ1
   refine gf p E (by omega) _ (hp.pw _).app1 _ fun s8 n n1 n2=>?_
   rw[dj hpl]
   have hn:0≤n∧n≤E:=by omega
   clear n1 n2
   simp -implicitDefEqProofs (maxSteps:=9^9) (disch:=omega) only[go_sem,simprocAttr,aK,bd,ba,bc,aX]
   refine aj.sR (σ.length+2) 5 6 (by rw[ba];rfl) rfl ?_
   simp only[aX,List.set_cons_succ,List.set_cons_zero,List.append_assoc,List.cons_append,List.nil_append,List.length_append,List.length_cons,List.length_nil,Nat.zero_add,Nat.reduceAdd,aK]
   refine aj.sR (σ.length+3) 1 1 (by rw[ba];rfl) rfl ?_
   simp only[aX,List.set_cons_succ,List.set_cons_zero,List.append_assoc,List.cons_append,List.nil_append,List.length_append,List.length_cons,List.length_nil,Nat.zero_add,Nat.reduceAdd,aK]
   refine aj.eL (Tryz.ah (S:=S) 106 Tryz.uh fs0 aD) (α:=List Tn×List Int) (fun a=>n.toNat-a.1.length)
    (fun a τ=>(∃s j,τ=pw σ p s++(kH 0 0 0 0 (.list .full 0 []) (.list .full 0 []):: .cells [.list .full 0 [],.list .full 0 []]::kH hands skill mn mx (.list (.own (σ.length+5)) 2 (Z.map Sg.av)) (.list (.own (σ.length+6)) 6 (a.1.map Tn.av)):: .cells [.list (.own (σ.length+4)) 1 (L.map (.int .i64)),.list (.own (σ.length+7)) 1 (a.2.map (.int .i64))]:: .tail L.length 1:: .tail Z.length 2:: .tail a.1.length 6:: .tail a.2.length 1::j))∧(a.1.length:Int)≤n∧a.2.length=a.1.length∧∀i (h:i<a.1.length) (h':i<a.2.length),mh ⟨hands,skill,mn,mx,Z,[]⟩ L w a.1[i] a.2[i])
    (fun a=>[(15,.int .i64 (n- (a.1.length:Int)))]) ([],[]) (by kernel_rfl) (by simp[upd,ins,aw,ae]) ⟨⟨s8,[],by simp[kH]⟩,by simp;omega,rfl,by simp⟩ ?_
   rintro⟨X,B⟩ τ ⟨⟨s9,j,rfl⟩,hX1,hX2,hX3⟩ ih
   simp only[kH] at ih hX1 hX2 hX3⊢
   by_cases hlt:0<n- (X.length:Int)
   ·have hlt':(0<n- (X.length:Int))=True:=eq_true hlt
    have hwm:IntKind.i64.wrap (n- (X.length:Int)-1)=n- (X.length:Int)-1:=wrap64 (by omega) (by omega)
    simp -implicitDefEqProofs (maxSteps:=9^9) (disch:=omega) only[go_sem,simprocAttr,aK,bd,ba,bc,aX,hlt']
    refine ao.weaken (l':=[.ptr p 0,(⟨hands,skill,mn,mx,Z,X⟩: Ros).av,l6 L B,.int .i64 w]) ⟨rfl,⟨rfl,rfl,rfl,rfl,⟨rfl,.inl rfl,.inl rfl⟩,⟨rfl,.inl rfl,.inl rfl⟩,trivial⟩,⟨⟨rfl,.inl rfl,.inl rfl⟩,⟨rfl,.inl rfl,.inl rfl⟩,trivial⟩,rfl,trivial⟩ ?_
    refine H7 p ⟨hands,skill,mn,mx,Z,X⟩ L B w hw (by simp only;omega) (by simp only;omega) (by simp only;omega) (fun z hz=>by have:=hL2 z hz;omega) (by simp only;omega) _ (hp.pw _).app1 _ fun s10 x b junk hT=>?_
    rw[dj hpl,List.append_assoc]
    have hxav:x.av= .agg x.cells:=rfl
    simp only[hxav,Tn.cells]
    simp -implicitDefEqProofs (maxSteps:=9^9) (disch:=omega) only[go_sem,simprocAttr,aK,bd,ba,bc,aX,hX2,hwm]
    refine(ih (X++[x],B++[b]) _ (by simp only[List.length_append,List.length_singleton];omega) ⟨⟨s10,j++junk++[.cells x.cells],rfl⟩,by simp only[List.length_append,List.length_singleton];omega,by simp[hX2],fun i g1 g2=>?_⟩).ay (by simp[hX2,hxav,Tn.cells]) (by simp[upd,ins,aw,ae];omega)
    simp only at g1 g2⊢
    rw[List.length_append,List.length_singleton] at g1 g2
    rw[List.getElem_append,List.getElem_append]
    split<;> split
    ·exact hX3 i (by assumption) (by assumption)
    ·omega
    ·omega
    ·simp only[List.getElem_singleton]
     exact hT.congr rfl rfl rfl
   ·have hlt':(0<n- (X.length:Int))=False:=eq_false hlt
    simp -implicitDefEqProofs (maxSteps:=9^9) (disch:=omega) only[go_sem,simprocAttr,aK,bd,ba,bc,aX,hlt']
    have hT:kZ H E w ⟨hands,skill,mn,mx,Z,X⟩ L B:=⟨hhd,hsk,hmn,hmx,hLl,hL2,hZl,hZ2,(show(X.length:Int)≤E by omega),hX2,fun i g1 g2=>(hX3 i g1 g2).congr rfl rfl rfl⟩
    exact⟨_,gp (by simp[wk,wkL,wk1,wk0,Ros.av,l6,ar]),h _ _ _ _ _ hT⟩
def Ros.avv(r:Ros)(a n:Nat):AV:= .agg [.int .i64 r.hands,.int .i64 r.skill,.int .i64 r.mn,.int .i64 r.mx,.list .no 2 (r.sets.map Sg.av),.vec a n]
end Go.Proofs
namespace Go.Proofs
open Go Go.Mu Go.Ins
theorem AH(sl lo hi:Int)(rds:List Rd):aF ⟨sl,[⟨lo,hi⟩],rds⟩=(List.range (hi-lo+1).toNat).flatMap fun(k:Nat)=>dY ⟨sl,[⟨lo,hi⟩],rds⟩ 0 (bG [0,0,0] ((0:Nat):Int) (lo+k)) 1:=rfl
theorem kZ.L4{H E w:Int}{r:Ros}{rates by_:List Int}(h:kZ H E w r rates by_){x:Tn}(hx:x∈r.ents):∃b,mh r rates w x b:=by
 obtain⟨i,hi,rfl⟩:=List.mem_iff_getElem.1 hx
 exact⟨_,h.ent i hi (by rw[h.bl];exact hi)⟩
def gC(rates:List Int):List Int:=rates++List.replicate (4-rates.length) 0
theorem nB(rates:List Int)(i:Int):tg (gC rates) i=tg rates i:=by
 unfold tg gC
 simp only[List.getD,List.getElem?_append,List.getElem?_replicate]
 split
 ·rfl
 ·rename_i h
  rw[List.getElem?_eq_none (by omega)]
  split<;> rfl
def Tryz.N4:Nat→List Nat×List (Nat×List Nat)
 | 6=>([0,1,3,7,15,31,63,127,255,511,1023,2047,4095,8191,16383,32767,65535,131071,262143,524287,1048575,2097151,4194303,8388607,8388607,33554431,67108863,134217727,268435455,268435455,268435455,1879048191,4294967295,8589934591,17179869183,34359738367,34359738367,137438953471,274877906943,549755813887,1099511627775,1099511627775,4398046511103,8796093022207,17592186044415],[(0,[]),(1,[]),(2,[]),(3,[]),(4,[]),(5,[]),(6,[]),(7,[]),(8,[]),(9,[]),(10,[]),(11,[]),(12,[]),(13,[]),(14,[]),(15,[]),(16,[]),(17,[]),(18,[]),(19,[]),(20,[]),(21,[]),(22,[]),(23,[]),(24,[24]),(25,[]),(26,[]),(27,[]),(28,[]),(29,[]),(30,[]),(31,[]),(32,[]),(33,[]),(34,[]),(35,[]),(36,[]),(37,[37]),(38,[]),(39,[]),(40,[]),(41,[]),(42,[42]),(43,[]),(44,[])])
 | _=>([],[])
theorem Tryz.Od:Tryz.N4 6=([0,1,3,7,15,31,63,127,255,511,1023,2047,4095,8191,16383,32767,65535,131071,262143,524287,1048575,2097151,4194303,8388607,8388607,33554431,67108863,134217727,268435455,268435455,268435455,1879048191,4294967295,8589934591,17179869183,34359738367,34359738367,137438953471,274877906943,549755813887,1099511627775,1099511627775,4398046511103,8796093022207,17592186044415],[(0,[]),(1,[]),(2,[]),(3,[]),(4,[]),(5,[]),(6,[]),(7,[]),(8,[]),(9,[]),(10,[]),(11,[]),(12,[]),(13,[]),(14,[]),(15,[]),(16,[]),(17,[]),(18,[]),(19,[]),(20,[]),(21,[]),(22,[]),(23,[]),(24,[24]),(25,[]),(26,[]),(27,[]),(28,[]),(29,[]),(30,[]),(31,[]),(32,[]),(33,[]),(34,[]),(35,[]),(36,[]),(37,[37]),(38,[]),(39,[]),(40,[]),(41,[]),(42,[42]),(43,[]),(44,[])]):=rfl
attribute [go_sem] Tryz.Od
theorem nZ:cV.Fit:=⟨by decide,by decide,by decide +kernel⟩
theorem Kf:gU.Fit:=⟨by decide,by decide,by decide +kernel⟩
theorem sw:al aV 26 [] (.bool true):=by
 refine PvE (Tryz.ah (S:=aV) 80 Tryz.N4 iD fM) (.bool) Tryz.RX Tryz.func26 rfl ?_
 intro σ
 simp -implicitDefEqProofs (maxSteps:=9^9) (disch:=omega) only[go_sem,simprocAttr]
 refine Q9 _ _ ?_
 simp -implicitDefEqProofs (maxSteps:=9^9) (disch:=omega) only[go_sem,simprocAttr]
 refine yy gU Kf _ _ ?_
 rw[JI,Ge rfl]
 simp -implicitDefEqProofs (maxSteps:=9^9) (disch:=omega) only[go_sem,simprocAttr]
 refine py _ _ ?_
 simp -implicitDefEqProofs (maxSteps:=9^9) (disch:=omega) only[go_sem,simprocAttr]
 refine uc cV nZ _ _ ?_
 rw[GS,nq rfl]
 simp -implicitDefEqProofs (maxSteps:=9^9) (disch:=omega) only[go_sem,simprocAttr]
 refine py _ _ ?_
 simp -implicitDefEqProofs (maxSteps:=9^9) (disch:=omega) only[go_sem,simprocAttr]
 refine Jd cV nZ 0 BN (by rw[n7];decide) (by rw[n7];decide) _ _ ?_
 rw[OL]
 simp -implicitDefEqProofs (maxSteps:=9^9) (disch:=omega) only[go_sem,simprocAttr]
 refine py _ _ ?_
 simp -implicitDefEqProofs (maxSteps:=9^9) (disch:=omega) only[go_sem,simprocAttr]
 refine RH cV nZ 0 10 44000 _ _ ?_
 rw[BR,PM]
 simp -implicitDefEqProofs (maxSteps:=9^9) (disch:=omega) only[go_sem,simprocAttr]
 refine py _ _ ?_
 simp -implicitDefEqProofs (maxSteps:=9^9) (disch:=omega) only[go_sem,simprocAttr]
 refine H4 cV nZ 0 5 (by decide) _ _ ?_
 rw[BX,OR]
 simp -implicitDefEqProofs (maxSteps:=9^9) (disch:=omega) only[go_sem,simprocAttr,Rng.av,ar]
 refine ao.weaken (l':=[.list .no 1 ([[0],[1]].map ar),.list .no 1 ([[0],[1]].map ar)]) ⟨⟨rfl,.inl rfl,.inl rfl⟩,⟨rfl,.inl rfl,.inl rfl⟩,trivial⟩ (xQ [[0],[1]] [[0],[1]] (by decide) (by decide) (by decide) (by decide) _ _ ?_)
 rw[decide_eq_true rfl]
 simp -implicitDefEqProofs (maxSteps:=9^9) (disch:=omega) only[go_sem,simprocAttr,Rng.av,ar]
theorem kZ.fit{H E w:Int}{r:Ros}{rates by_:List Int}(h:kZ H E w r rates by_)(hE:E≤5):r.Fit:=by
 have h1:=h.sl
 have h2:=h.el
 refine⟨by omega,by omega,fun x hx=>?_⟩
 obtain⟨b,hb⟩:=h.L4 hx
 obtain⟨t,lo,hi,rds,_,_,g3,g4⟩:=hb.ear
 rw[g4]
 rcases g3 with rfl | rfl<;> simp
end Go.Proofs
namespace Go.Proofs
open Go Go.Mu Go.Ins
variable {S:MC Tryz.prog}
attribute [go_sem] wm
theorem Fa(e:Ear)(h1:e.tones.length≤4294967296)(h2:e.rds.length≤4294967296):al S 92 [e.av] e.av:=by
 refine PvE (Tryz.ah (S:=S) 13 Tryz.MK kG il) (Ear.plain _) Tryz.Qd Tryz.func92 rfl ?_
 intro σ
 simp only[Ear.av]
 simp -implicitDefEqProofs (maxSteps:=9^9) (disch:=omega) only[go_sem,simprocAttr]
theorem pW(r:Ros)(hs:r.sets.length≤1000)(hn:r.ents.length≤1000)(he:∀x∈r.ents,x.ear.tones.length≤1000000∧x.ear.rds.length≤1000000)(σ:List aa)(Q:AV→List aa→Prop)(h:∀a b c j,Q (r.avv (σ.length+3) r.ents.length) (σ++(a::b::c:: .vec 6 (r.ents.map Tn.av)::j))) :
  ao S 30 [r.av] σ Q:=by
 refine ao.wkW ?_
 refine AcE (Tryz.ah (S:=S) 35 (fun _=>([],[])) fs0 aD) Tryz.QA Tryz.func30 rfl ?_
 simp only[Ros.av]
 simp -implicitDefEqProofs (maxSteps:=9^9) (disch:=omega) only[go_sem,simprocAttr]
 refine aj.O8 σ.length 5 6 (by rw[a8];rfl) rfl ?_
 simp only[lV,List.set_cons_succ,List.set_cons_zero,List.append_assoc,List.cons_append,List.nil_append,List.length_append,List.length_cons,List.length_nil,Nat.zero_add,Nat.reduceAdd]
 refine aj.bE (Tryz.ah (S:=S) 35 (fun _=>([],[])) fs0 aD) r.ents.length (fun _=>True) (fun i=>[(4,.int .i64 i)]) (fun i j=>σ++(.cells [.int .i64 r.hands,.int .i64 r.skill,.int .i64 r.mn,.int .i64 r.mx,.list (.own (σ.length+2)) 2 (r.sets.map Sg.av),.vec (σ.length+3) i]:: .cells [.int .i64 0,.int .i64 0,.int .i64 0,.int .i64 0,.list .full 0 [],.list .full 0 []]:: .tail r.sets.length 2:: .vec 6 ((r.ents.take i).map Tn.av)::j)) [] (by kernel_rfl) (by simp) (by simp[upd,ins,aw,ae]) trivial ?_ ?_
 ·intro i j hi _ ih
  have hidx:idx (r.ents.map Tn.av) (i:Int)=some (Tn.av r.ents[i]):=bu hi
  have hte:=he _ (List.getElem_mem hi)
  have htl:(r.ents.take i).length=i:=by rw[List.length_take];omega
  have hwi:IntKind.i64.wrap ((i:Int)+1)=((i+1:Nat):Int):=by rw[wrap64 (by omega) (by omega)];rfl
  rw[List.take_succ_eq_append_getElem hi,List.map_append] at ih
  generalize r.ents[i]=t at *
  have hav:t.av= .agg [.int .i64 t.day,.int .i64 t.hand,.int .i64 t.due,.int .i64 t.ear.slack,.list .no 2 (t.ear.tones.map Rng.av),.list .no 6 (t.ear.rds.map Rd.av)]:=rfl
  simp only[List.map_cons,List.map_nil] at ih
  rw[hav] at hidx ih
  have hcp:=Fa (S:=S) t.ear (by omega) (by omega)
  simp only[Ear.av] at hcp
  simp -implicitDefEqProofs (maxSteps:=9^9) (disch:=omega) only[go_sem,simprocAttr,hidx]
  refine hcp _ _ ?_
  simp -implicitDefEqProofs (maxSteps:=9^9) (disch:=omega) only[go_sem,simprocAttr,hidx,hwi,htl]
  exact(ih trivial (j++[aa.cells [.int .i64 t.day,.int .i64 t.hand,.int .i64 t.due,.int .i64 t.ear.slack,.list .no 2 (t.ear.tones.map Rng.av),.list .no 6 (t.ear.rds.map Rd.av)]])).ay (by simp) (by simp[upd,ins,aw,ae])
 ·intro j _
  rw[List.take_length]
  simp -implicitDefEqProofs (maxSteps:=9^9) (disch:=omega) only[go_sem,simprocAttr]
  exact⟨_,gp (by simp[wk,wkL,wk1,wk0,Ros.avv]),h _ _ _ _⟩
theorem _root_.Go.Mu.ao.P0{P:Program}{S:MC P}{f:FuncId}{args:List AV}{σ:List aa}{Q:AV→List aa→Prop}
  (h:ao S f args σ fun v σ'=>∃vs k r sz xs,v= .agg vs∧vs[k]? = some (.vec r xs.length)∧ai σ' r=some (.vec sz xs)∧Q (.agg (vs.set k (.list .no sz xs))) (ax σ' r .dead)):ao S f args σ Q:=by
 refine⟨h.1,fun M hM K w V cargs kd cs hR hO hV=>M.bind (h.2 M hM K w V cargs kd cs hR hO hV) ?_⟩
 rintro g' w' V' ⟨fr,v,σ',K',e1,e2,e3,hl,⟨vs,k,r,sz,xs,rfl,hk,hg,hq⟩,hR',hO',hS⟩
 obtain⟨K2,r1,r2,hv2⟩:=hR'.freeze hg
 refine M.ret ⟨fr,_,_,K2,e1,e2,e3,hl.mono fun c hv=>?_,hq,r1,hO'.iK hR' r1 r2,hS.trans (.ng r2)⟩
 rw[iN]
 cases hv with
 | agg _ cs' hl h1 hh=>
  obtain⟨hkl,hke⟩:=List.getElem?_eq_some_iff.1 hk
  refine .agg _ cs' (by simpa using hl) h1 fun i h1 h2=>?_
  by_cases e:k=i
  ·subst e
   rw[List.getElem_set_self]
   have:=hh k hkl h2
   rw[hke] at this
   exact hv2 _ this
  ·rw[List.getElem_set_ne e]
   exact(hh i (by simpa using h1) h2).mono r2.ext (Nat.le_refl _)
end Go.Proofs
namespace Go.Proofs
open Go Go.Mu Go.Ins
def gv(l:List Int):Nat:=l.foldl (fun s h=>s|||2^h.toNat) 0
end Go.Proofs
namespace Go.Proofs
open Go Go.Mu
variable {S:MC Tryz.prog}
def cJ(n:Nat):Nat→Nat→List (List Int)
 | 0,_=>[[]]
 | m+1,a=>(List.range (n-a)).flatMap fun k=>(cJ n m (a+k+1)).map fun l=>((a+k:Nat):Int)::l
def gL(n m a k:Nat):List (List Int):=(cJ n m (a+k+1)).map fun l=>((a+k:Nat):Int)::l
theorem Ea{n m a:Nat}:cJ n (m+1) a=(List.range (n-a)).flatMap (gL n m a):=rfl
theorem mo{n:Nat}:∀{m a:Nat} {l:List Int},l∈cJ n m a→l.length=m∧(∀x∈l,(a:Int)≤x∧x<n)∧l.Pairwise (· < ·)
 | 0,a,l,h=>by simp[cJ] at h;subst h;simp
 | m+1,a,l,h=>by
  obtain⟨k,hk,h2⟩:=List.mem_flatMap.1 h
  obtain⟨u,hu,rfl⟩:=List.mem_map.1 h2
  obtain⟨h3,h4,h5⟩:=mo hu
  have hk':=List.mem_range.1 hk
  refine⟨by simp[h3],fun x hx=>?_,?_⟩
  ·rcases List.mem_cons.1 hx with rfl | hx
   ·omega
   ·have:=h4 x hx;omega
  ·rw[List.pairwise_cons]
   exact⟨fun y hy=>by have:=h4 y hy;omega,h5⟩
theorem vS{n:Nat}:∀{m a:Nat},(cJ n m a).length≤(n+1)^m
 | 0,a=>by simp[cJ]
 | m+1,a=>by
  simp only[cJ]
  refine Nat.le_trans (uq (B:=(n+1)^m) (fun k=>by rw[List.length_map];exact vS) _) ?_
  rw[Nat.pow_succ,Nat.mul_comm ((n+1)^m)]
  exact Nat.mul_le_mul_right _ (by omega)
theorem kQ{n m a:Nat}(hn:n≤4)(hm:m≤4):(cJ n m a).length≤625:=by
 refine Nat.le_trans vS (Nat.le_trans (Nat.pow_le_pow_left (show n+1≤5 by omega) m) (Nat.le_trans (Nat.pow_le_pow_right (by omega) hm) (by decide)))
def c9(L:List (List Int)):AV:= .list .no 1 (L.map ar)
theorem fg(L:List (List Int)):Plain (c9 L):= .map fun x _=>Plain.fY (cA x).2
end Go.Proofs
namespace Go.Proofs
open Go Go.Mu Go.Ins
theorem Fz:∀n<5,∀m<5,∀x∈cJ n m 0,gv x<2^n∧kF (gv x)=m∧df (gv x)=x:=by decide +kernel
theorem IB:∀n<5,∀s<2^n,df s∈cJ n (kF s) 0∧gv (df s)=s:=by decide +kernel
theorem rS:∀n<5,∀m<5,(∀x∈cJ n m 0,gv x<2^n∧kF (gv x)=m∧df (gv x)=x)∧(∀s<2^n,kF s=m→df s∈cJ n m 0∧gv (df s)=s):=fun n hn m hm=>
 ⟨Fz n hn m hm,fun s hs e=>by have:=IB n hn s hs;rw[e] at this;exact this⟩
theorem KS:∀n<5,∀m<5,(cJ n m 0).Nodup∧(cJ n m 0).Pairwise (fun a b=>cI a b≤0):=by decide +kernel
theorem yU:∀s<16,gv (df s)=s:=by decide +kernel
def iO(r:Ros)(m:Nat):List (List Int):=(cJ r.hands.toNat m 0).filter fun l=>decide (dw r (aq r) (gv l)≠[])
theorem gI{r:Ros}(hr:r.Head){m:Nat}(hm:m≤r.hands.toNat):cf r (aq r) m=[]↔iO r m=[]:=by
 have hh:=hr.hands
 obtain⟨c1,c2⟩:=rS r.hands.toNat (by omega) m (by omega)
 have hp:(2:Nat)^r.hands.toNat≤2^4:=Nat.pow_le_pow_right (by omega) (by omega)
 constructor
 ·intro h
  unfold iO
  rw[List.filter_eq_nil_iff]
  intro x hx hd
  obtain⟨g1,g2,_⟩:=c1 x hx
  obtain⟨u,hu⟩:=List.exists_mem_of_ne_nil _ (of_decide_eq_true hd)
  have:=(jy hr (m:=m)).2 ⟨gv x,g1,by rw[← gZ _ (by omega)];exact g2,hu⟩
  rw[h] at this;simp at this
 ·intro h
  refine List.eq_nil_iff_forall_not_mem.2 fun u hu=>?_
  obtain⟨s,g1,g2,g3⟩:=(jy hr).1 hu
  obtain⟨k1,k2⟩:=c2 s g1 (by rw[gZ _ (by omega)];exact g2)
  have:df s∈iO r m:=List.mem_filter.2 ⟨k1,decide_eq_true (by rw[k2];exact List.ne_nil_of_mem g3)⟩
  rw[h] at this;simp at this
theorem J7{r:Ros}(hr:r.Head){m:Nat}(hm:m≤r.hands.toNat)(he:aE r (aq r)=(cf r (aq r) m).foldl cM []):mv (aE r (aq r))=iO r m:=by
 have hh:=hr.hands
 obtain⟨c1,c2⟩:=rS r.hands.toNat (by omega) m (by omega)
 obtain⟨o1,o2⟩:=KS r.hands.toNat (by omega) m (by omega)
 have hp:(2:Nat)^r.hands.toNat≤2^4:=Nat.pow_le_pow_right (by omega) (by omega)
 have hdl:∀s,s∈bO (aE r (aq r))↔s<2^r.hands.toNat∧eB s=m∧dw r (aq r) s≠[]:=fun s=>by
  unfold bO
  rw[fB,List.mem_map]
  constructor
  ·rintro(h | ⟨u,hu,rfl⟩)
   ·simp at h
   ·obtain⟨g1,g2,g3⟩:=vQ hr ((pF he).1 hu)
    exact⟨g2,g1,List.ne_nil_of_mem g3⟩
  ·rintro⟨g1,g2,g3⟩
   obtain⟨u,hu⟩:=List.exists_mem_of_ne_nil _ g3
   exact .inr ⟨u,(pF he).2 ((jy hr).2 ⟨s,g1,g2,hu⟩),wF hr g1 (List.mem_filter.1 hu).1⟩
 refine(iM (le:=leL) gS mB (fun _ _=>sf) (o2.filter _) ?_).symm
 refine(List.perm_ext_iff_of_nodup (o1.filter _) ?_).2 fun x=>?_
 ·rw[List.Nodup,List.pairwise_map]
  refine(jx List.nodup_nil:(bO (aE r (aq r))).Nodup).imp_of_mem fun{a b} ha hb hab e=>hab ?_
  have h1:=(hdl a).1 ha
  have h2:=(hdl b).1 hb
  rw[← yU a (by omega),← yU b (by omega),e]
 ·rw[List.mem_map,List.mem_filter,decide_eq_true_eq]
  constructor
  ·rintro⟨hx,hd⟩
   obtain⟨g1,g2,g3⟩:=c1 x hx
   exact⟨gv x,(hdl _).2 ⟨g1,by rw[← gZ _ (by omega)];exact g2,hd⟩,g3⟩
  ·rintro⟨s,hs,rfl⟩
   obtain⟨g1,g2,g3⟩:=(hdl s).1 hs
   obtain⟨k1,k2⟩:=c2 s g1 (by rw[gZ _ (by omega)];exact g2)
   exact⟨k1,by rw[k2];exact g3⟩
theorem Gx{r:Ros}(hg:r.Good)(hro:bP r=0)(h:∀m,m≤r.hands.toNat→iO r m=[]):aC r []=11∧dV r=[]:=by
 have he:aE r (aq r)=[]:=by
  rcases kW r (aq r) with⟨h1,_⟩ | ⟨m,h1,_,h3,_⟩
  ·exact h1
  ·exact absurd ((gI hg.toHead h1).2 (h m h1)) h3
 have hk:aC r []=11:=by
  unfold aC
  rw[if_neg (fun c=>c hro),if_neg (fun c=>c rfl),if_pos he]
 exact⟨hk,by unfold dV;rw[hk];rfl⟩
theorem FH{r:Ros}(hg:r.Good)(hro:bP r=0){m:Nat}(hm:m≤r.hands.toNat)(h1:iO r m≠[])(h0:∀j,j<m→iO r j=[]):aC r []=0∧dV r=iO r m:=by
 rcases kW r (aq r) with⟨_,g⟩ | ⟨k,g1,g2,g3,g4⟩
 ·exact absurd ((gI hg.toHead hm).1 (g m hm)) h1
 ·have hkm:k=m:=by
   rcases Nat.lt_trichotomy k m with c | c | c
   ·exact absurd ((gI hg.toHead g1).2 (h0 k c)) g3
   ·exact c
   ·exact absurd ((gI hg.toHead hm).1 (g4 m c)) h1
  subst hkm
  have hne:aE r (aq r)≠[]:=by rw[g2];exact fun e=>g3 (rX.1 e)
  have hk:aC r []=0:=by
   unfold aC
   rw[if_neg (fun c=>c hro),if_neg (fun c=>c rfl),if_neg hne]
  exact⟨hk,by unfold dV;rw[if_pos hk];exact J7 hg.toHead hm g2⟩
end Go.Proofs
namespace Go.Proofs
open Go Go.Mu
end Go.Proofs
namespace Go.Proofs
open Go Go.Mu Go.Ins
def Ros.snoc(r:Ros)(x:Tn):Ros:={r with ents:=r.ents++[x]}
theorem RJ(a:AV)(l:List AV):idx (a::l) 0=some a:=rfl
end Go.Proofs
namespace Go.Proofs
open Go Go.Mu Go.Ins
variable {S:MC Tryz.prog}
end Go.Proofs
namespace Go.Proofs
open Go Go.Mu Go.Ins
theorem D9{num:List Int→Int}{l:List (List Int)}(hl:l≠[]):(∀t∈l,(bH num l).lo≤num t∧num t≤(bH num l).hi)∧(∃t∈l,num t=(bH num l).lo)∧(∃t∈l,num t=(bH num l).hi):=by
 have key:∀(l p:List (List Int)) (y:Rng),((∀t∈p,y.lo≤num t∧num t≤y.hi)∧(∃t∈p,num t=y.lo)∧(∃t∈p,num t=y.hi))→
   ((∀t∈p++l,(l.foldl (cD num) y).lo≤num t∧num t≤(l.foldl (cD num) y).hi)∧(∃t∈p++l,num t=(l.foldl (cD num) y).lo)∧(∃t∈p++l,num t=(l.foldl (cD num) y).hi)):=by
  intro l
  induction l with
  | nil=>intro p y h;simpa using h
  | cons t l ih=>
   intro p y ⟨h1,⟨a,ha,ha2⟩,⟨b,hb,hb2⟩⟩
   have e:p++t::l=(p++[t])++l:=by simp
   rw[e]
   refine ih (p++[t]) (cD num y t) ⟨fun u hu=>?_,?_,?_⟩
   ·rcases List.mem_append.1 hu with hu | hu
    ·have:=h1 u hu
     simp only[cD,mn,mx];split<;> split<;> omega
    ·simp at hu;subst hu
     simp only[cD,mn,mx];split<;> split<;> omega
   ·simp only[cD,mn]
    split
    ·exact⟨t,by simp,rfl⟩
    ·exact⟨a,by simp[ha],ha2⟩
   ·simp only[cD,mx]
    split
    ·exact⟨t,by simp,rfl⟩
    ·exact⟨b,by simp[hb],hb2⟩
 obtain⟨t,l,rfl⟩:∃t l',l=t::l':=by cases l with | nil=>exact absurd rfl hl | cons a b=>exact⟨a,b,rfl⟩
 have:=key l [t] (cD num ⟨num t,num t⟩ t) ⟨fun u hu=>by simp at hu;subst hu;simp[cD,mn,mx],⟨t,by simp,by simp[cD,mn]⟩,⟨t,by simp,by simp[cD,mx]⟩⟩
 simpa[bH] using this
def sg(sl:Int)(rds:List Rd)(v:Int):Bool:=rds.all fun r=>isR r sl [v,0,0]
def dP(sl lo hi:Int)(rds:List Rd):List Int:=((List.range (hi-lo+1).toNat).filter fun(k:Nat)=>sg sl rds (lo+k)).map fun(k:Nat)=>lo+(k:Int)
theorem B9{α:Type}(P:Nat→Bool)(f:Nat→α):∀l:List Nat,(l.flatMap fun k=>if P k then[f k] else[])=(l.filter P).map f
 | []=>rfl
 | k::l=>by
  rw[List.flatMap_cons,B9 P f l,List.filter_cons]
  by_cases h:P k=true
  ·rw[if_pos h,if_pos h];rfl
  ·rw[if_neg h,if_neg h];rfl
theorem kX(sl lo hi:Int)(rds:List Rd):aF ⟨sl,[⟨lo,hi⟩],rds⟩=(dP sl lo hi rds).map fun v=>[v,0,0]:=by
 rw[AH]
 unfold dP
 rw[List.map_map]
 exact B9 (fun(k:Nat)=>sg sl rds (lo+k)) (fun(k:Nat)=>[lo+(k:Int),0,0]) _
theorem lE{sl lo hi:Int}{rds:List Rd}{v:Int}:v∈dP sl lo hi rds↔(lo≤v∧v≤hi)∧sg sl rds v=true:=by
 unfold dP
 simp only[List.mem_map,List.mem_filter,List.mem_range]
 constructor
 ·rintro⟨k,⟨h1,h2⟩,rfl⟩;exact⟨by omega,h2⟩
 ·rintro⟨h1,h2⟩
  have e:lo+((v-lo).toNat:Int)=v:=by omega
  exact⟨(v-lo).toNat,⟨by omega,by rw[e];exact h2⟩,e⟩
theorem rj(sl lo hi:Int)(rds:List Rd):(dP sl lo hi rds).Pairwise (· < ·):=by
 unfold dP
 rw[List.pairwise_map]
 exact(List.pairwise_lt_range.filter _).imp fun h=>by omega
theorem AY(sl lo hi:Int)(rds:List Rd):aQ ((aF ⟨sl,[⟨lo,hi⟩],rds⟩).map fun t=>tg t 0)=dP sl lo hi rds:=by
 rw[kX,List.map_map]
 have e:((fun t=>tg t 0)∘fun(v:Int)=>[v,0,0])=id:=by funext v;rfl
 rw[e,List.map_id]
 have:=mH (dP sl lo hi rds) [] (by rw[List.nil_append];exact(rj sl lo hi rds).imp fun h=>by omega)
 simpa[aQ] using this
theorem xT{sl lo hi:Int}{rds:List Rd}(h:dP sl lo hi rds≠[]):aF ⟨sl,[⟨lo,hi⟩],rds⟩≠[]:=by
 rw[kX];simpa using h
theorem IU{x:Tn}{h sl lo hi:Int}{rds:List Rd}(h1:0≤x.day∧x.day≤60)(h2: -1≤x.hand∧x.hand≤h-1)(h3:1≤x.due∧x.due≤100000)(he:x.ear=⟨sl,[⟨lo,hi⟩],rds⟩)(hk:ck x.ear=0)(hn:dP sl lo hi rds≠[]) :
  bS x h=((dP sl lo hi rds).map (· - x.due),0):=by
 rw[lN h1 h2 h3 hk (by rw[he];rfl) (by rw[he];exact xT hn),he,AY]
def bF(l:List Int):Rng:=⟨tg l 0,tg l ((l.length:Int)-1)⟩
theorem uE{l:List Int}(h:l.Pairwise (· < ·)){v:Int}(hv:v∈l):tg l 0≤v∧v≤tg l ((l.length:Int)-1):=by
 obtain⟨i,hi,rfl⟩:=List.mem_iff_getElem.1 hv
 have e0:tg l 0=l[0]'(by omega):=by unfold tg;rw[show Int.toNat 0=0 from rfl,List.getD_eq_getElem?_getD,List.getElem?_eq_getElem (by omega)];rfl
 have e1:tg l ((l.length:Int)-1)=l[l.length-1]'(by omega):=by
  unfold tg;rw[show((l.length:Int)-1).toNat=l.length-1 by omega,List.getD_eq_getElem?_getD,List.getElem?_eq_getElem (by omega)];rfl
 rw[e0,e1]
 have hp:=List.pairwise_iff_getElem.1 h
 constructor
 ·by_cases c:i=0
  ·subst c;exact Int.le_refl _
  ·exact Int.le_of_lt (hp 0 i (by omega) hi (by omega))
 ·by_cases c:i=l.length-1
  ·subst c;exact Int.le_refl _
  ·exact Int.le_of_lt (hp i (l.length-1) hi (by omega) (by omega))
theorem vC{l:List Int}(h:l≠[]):tg l 0∈l:=by
 cases l with
 | nil=>exact absurd rfl h
 | cons a l=>exact List.mem_cons_self
theorem qo{l:List Int}(h:l≠[]):tg l ((l.length:Int)-1)∈l:=by
 have hl:0<l.length:=List.length_pos_iff.2 h
 unfold tg
 rw[show((l.length:Int)-1).toNat=l.length-1 by omega,List.getD_eq_getElem?_getD,List.getElem?_eq_getElem (by omega)]
 exact List.getElem_mem _
theorem Iv{l:List Int}{d i:Int}(h:i.toNat<l.length):tg (l.map (· - d)) i=tg l i-d:=by
 unfold tg
 simp[List.getD_eq_getElem?_getD,List.getElem?_eq_getElem h]
theorem xY{l:List Int}{d:Int}(h:l≠[]):bF (l.map (· - d))=⟨tg l 0-d,tg l ((l.length:Int)-1)-d⟩:=by
 have hl:0<l.length:=List.length_pos_iff.2 h
 unfold bF
 rw[List.length_map,Iv (by simpa using hl),Iv (by omega)]
theorem IL{sl lo hi:Int}{rds:List Rd}(h:dP sl lo hi rds≠[]):bH (fun t=>tg t ((0:Nat):Int)) (aF ⟨sl,[⟨lo,hi⟩],rds⟩)=bF (dP sl lo hi rds):=by
 rw[kX]
 have hA:=rj sl lo hi rds
 generalize dP sl lo hi rds=V at h hA
 obtain⟨h1,⟨a,ha,ha2⟩,⟨b,hb,hb2⟩⟩:=D9 (num:=fun t=>tg t ((0:Nat):Int)) (l:=V.map fun v=>[v,0,0]) (by simpa using h)
 obtain⟨v,hv,rfl⟩:=List.mem_map.1 ha
 obtain⟨w,hw,rfl⟩:=List.mem_map.1 hb
 have g1:=h1 _ (List.mem_map.2 ⟨_,vC h,rfl⟩)
 have g2:=h1 _ (List.mem_map.2 ⟨_,qo h,rfl⟩)
 have k1:=uE hA hv
 have k2:=uE hA hw
 have t0:∀v:Int,tg [v,0,0] ((0:Nat):Int)=v:=fun v=>rfl
 simp only[t0] at ha2 hb2 g1 g2
 generalize bH _ _=sp at *
 obtain⟨s1,s2⟩:=sp
 simp only at *
 unfold bF
 rw[show s1=tg V 0 by omega,show s2=tg V ((V.length:Int)-1) by omega]
theorem HA{sl lo hi:Int}{rds:List Rd}(hk:ck ⟨sl,[⟨lo,hi⟩],rds⟩= 0)(h:dP sl lo hi rds≠[]):cL ⟨sl,[⟨lo,hi⟩],rds⟩=([bF (dP sl lo hi rds)],0):=by
 have e:cy ⟨sl,[⟨lo,hi⟩],rds⟩=(aF ⟨sl,[⟨lo,hi⟩],rds⟩,0):=by
  unfold cy;rw[if_neg (by simp[hk]),if_neg (xT h)]
 unfold cL
 rw[e]
 show(([bH (fun t=>tg t ((0:Nat):Int)) (aF ⟨sl,[⟨lo,hi⟩],rds⟩)]:List Rng),(0:Int))=_
 rw[IL h]
theorem FI{sl:Int}{rds:List Rd}(hr:∀r∈rds,ckR r 1=0){a b y:Int}(ha:sg sl rds a=true)(hb:sg sl rds b=true)(h:a≤y∧y≤b):sg sl rds y=true:=by
 unfold sg at *
 rw[List.all_eq_true] at *
 intro r hm
 have h0:=hr r hm
 have h1:=ha r hm
 have h2:=hb r hm
 have hkk:r.kind=1∧r.a=0∧r.b=0∧0≤r.sec:=by
  unfold ckR at h0
  repeat' split at h0
  all_goals first | omega | cases h0
 obtain⟨k1,k2,k3,k4⟩:=hkk
 unfold isR at h1 h2⊢
 rw[if_pos k1] at h1 h2⊢
 rw[k2] at h1 h2⊢
 have t0:∀v:Int,tg [v,0,0] 0=v:=fun v=>rfl
 simp only[t0,decide_eq_true_eq] at h1 h2⊢
 have m1:a*r.sec≤y*r.sec:=Int.mul_le_mul_of_nonneg_right h.1 k4
 have m2:y*r.sec≤b*r.sec:=Int.mul_le_mul_of_nonneg_right h.2 k4
 omega
theorem PZ{sl lo hi:Int}{rds:List Rd}(hk:ck ⟨sl,[⟨lo,hi⟩],rds⟩= 0):∀r∈rds,ckR r 1=0:=by
 refine ie (f:=fun r=>ckR r (1:Nat)) ?_
 simp only[ck,List.length_cons,List.length_nil] at hk
 grind
theorem Hh{sl lo hi:Int}{rds:List Rd}(hk:ck ⟨sl,[⟨lo,hi⟩],rds⟩= 0){y:Int}(hn:dP sl lo hi rds≠[])(h:(bF (dP sl lo hi rds)).lo≤y∧y≤(bF (dP sl lo hi rds)).hi):y∈dP sl lo hi rds:=by
 have m1:=lE.1 (vC hn)
 have m2:=lE.1 (qo hn)
 unfold bF at h
 exact lE.2 ⟨by simp only at h;omega,FI (PZ hk) m1.2 m2.2 h⟩
theorem Ros.Good.one{r:Ros}(h:r.Good){x:Tn}(hx:x∈r.ents):∃sl lo hi rds,x.ear=⟨sl,[⟨lo,hi⟩],rds⟩∧ck ⟨sl,[⟨lo,hi⟩],rds⟩= 0∧dP sl lo hi rds≠[]∧bS x r.hands=((dP sl lo hi rds).map (· - x.due),0):=by
 obtain⟨h1,h2,h3,h4,h5,h6⟩:=h.ent x hx
 obtain⟨_,hw,hn,_⟩:=KC h6
 have hl:x.ear.tones.length=1:=by
  unfold dq at hw
  split at hw
  ·omega
  ·cases hw
 obtain⟨sl,ts,rds⟩:∃sl ts rds,x.ear=⟨sl,ts,rds⟩:=⟨_,_,_,rfl⟩
 obtain⟨rds,he⟩:=rds
 rw[he] at hl hn h4
 match ts,hl with
 | [⟨lo,hi⟩],_=>
  have hn2:dP sl lo hi rds≠[]:=by rw[kX] at hn;simpa using hn
  exact⟨sl,lo,hi,rds,he,h4,hn2,IU h1 (by omega) h3 he (by rw[he];exact h4) hn2⟩
theorem ix{l:List Int}{i:Int}(h:0≤i∧i<l.length):idx (l.map (AV.int .i64)) i=some (.int .i64 (tg l i)):=by
 obtain⟨n,rfl⟩:=Int.eq_ofNat_of_zero_le h.1
 have hn:n<l.length:=by omega
 rw[bu hn]
 simp[tg,List.getD_eq_getElem?_getD,List.getElem?_eq_getElem hn]
theorem PQ{x:Tn}{h:Int}(hh:1≤h∧h≤4):pq x h=(bS x h).2:=by
 have hw:IntKind.i64.wrap (h-1)=h-1:=wrap64 (by omega) (by omega)
 unfold pq bS
 rw[hw]
 by_cases c1:0≤x.day∧x.day≤60
 ·have nc1:¬¬(0≤x.day∧x.day≤60):=fun c=>c c1
  rw[if_neg nc1,if_neg nc1]
  by_cases c2: -1≤x.hand∧x.hand≤h-1
  ·have nc2:¬¬(-1≤x.hand∧x.hand≤h-1):=fun c=>c c2
   rw[if_neg nc2,if_neg nc2]
   by_cases c3:1≤x.due∧x.due≤100000
   ·have nc3:¬¬(1≤x.due∧x.due≤100000):=fun c=>c c3
    rw[if_neg nc3,if_neg nc3]
    by_cases c4:ck x.ear=0
    ·have nc4:¬(ck x.ear≠0):=fun c=>c c4
     rw[if_neg nc4,if_neg nc4]
     by_cases c5:1<x.ear.tones.length
     ·rw[if_pos c5,if_pos c5]
     ·rw[if_neg c5,if_neg c5]
      have hl:x.ear.tones.length≠0:=fun e=>by simp only[ck] at c4;rw[if_pos e] at c4;split at c4<;> omega
      have h0:dq x.ear 0=0:=by unfold dq;rw[if_pos (by omega)]
      have ha:c8 x.ear (dq x.ear 0)=cy x.ear:=by
       unfold c8;rw[if_neg (by simp[c4]),if_neg (by simp[h0])]
      unfold cL bC
      rw[ha]
      by_cases hk:(cy x.ear).2=0
      ·rw[if_pos hk,if_pos hk]
      ·rw[if_neg hk,if_neg hk]
    ·rw[if_pos c4,if_pos c4]
   ·rw[if_pos c3,if_pos c3]
  ·rw[if_pos c2,if_pos c2]
 ·rw[if_pos c1,if_pos c1]
theorem wh{α:Type}{f g:α→Int}:∀{l:List α},(∀x∈l,f x=g x)→bM f l=bn (l.map g)
 | [],_=>rfl
 | x::l,h=>by
  show(if f x=0 then bM f l else f x)=if g x=0 then bn (l.map g) else g x
  rw[h x (by simp),wh fun y hy=>h y (by simp[hy])]
theorem ve(r:Ros):Fg r=bP r:=by
 unfold Fg bP
 by_cases h:bX r=0
 ·rw[if_neg (fun c=>c h),if_neg (fun c=>c h)]
  have hh:=(r.BQ h).hands
  exact wh fun x _=>PQ hh
 ·rw[if_pos h,if_pos h]
end Go.Proofs
namespace Go.Proofs
open Go Go.Mu Go.Ins
variable {S:MC Tryz.prog}
theorem Ros.Good.bF{r:Ros}(h:r.Good){x:Tn}(hx:x∈r.ents):∃a b,cL x.ear=([⟨a,b⟩],0)∧Go.Proofs.bF (bS x r.hands).1=⟨a-x.due,b-x.due⟩∧(1≤a∧a≤100000)∧(1≤b∧b≤100000):=by
 obtain⟨sl,lo,hi,rds,h1,h2,h3,h4⟩:=h.one hx
 have ht:=(dQ h2).tone ⟨lo,hi⟩ (by simp)
 have m1:=lE.1 (vC h3)
 have m2:=lE.1 (qo h3)
 simp only at ht
 refine⟨tg (dP sl lo hi rds) 0,tg (dP sl lo hi rds) ((dP sl lo hi rds).length-1),?_,?_,by omega,by omega⟩
 ·rw[h1,HA h2 h3];rfl
 ·rw[h4,xY h3]
theorem zF(r:Ros)(h:r.Good)(x:Tn)(hx:x∈r.ents)(h1:x.ear.tones.length≤1000000)(h2:x.ear.rds.length≤1000000):al S 114 [x.av] (bF (bS x r.hands).1).av:=by
 obtain⟨a,b,e1,e2,e3,e4⟩:=h.bF hx
 have hd:=(h.ent x hx).2.2.1
 rw[e2]
 refine PvE (Tryz.ah (S:=S) 26 Tryz.xW fE dJ) (Rng.plain _) Tryz.D8 Tryz.func114 rfl ?_
 intro σ
 obtain⟨day,hand,due,ear⟩:=x
 obtain⟨sl,ts,rs⟩:=ear
 simp only[Tn.av,Tn.cells] at h1 h2 e1 hd⊢
 have hwa:IntKind.i64.wrap (a-due)=a-due:=wrap64 (by omega) (by omega)
 have hwb:IntKind.i64.wrap (b-due)=b-due:=wrap64 (by omega) (by omega)
 clear e2 hx
 simp -implicitDefEqProofs (maxSteps:=9^9) (disch:=omega) only[go_sem,simprocAttr,e1,RJ,hwa,hwb,Rng.av]
theorem wO(r:Ros)(h:r.Good)(hf:∀x∈r.ents,x.ear.tones.length≤1000000∧x.ear.rds.length≤1000000):al S 104 [r.av] (.list .no 2 (((aq r).map bF).map Rng.av)):=by
 have hp:=fun x hx=>zF (S:=S) r h x hx (hf x hx).1 (hf x hx).2
 have hel:=h.entl
 refine PvE (Tryz.ah (S:=S) 22 (fun _=>([],[])) fE dJ) (.map fun x _=>Rng.plain x) Tryz.MQ Tryz.func104 rfl ?_
 intro σ
 have hm:(aq r).map bF=r.ents.map fun x=>bF (bS x r.hands).1:=by simp[aq]
 rw[hm]
 obtain⟨hands,skill,mn,mx,sets,ents⟩:=r
 simp only[Ros.av] at hp hf hel⊢
 simp -implicitDefEqProofs (maxSteps:=9^9) (disch:=omega) only[go_sem,simprocAttr]
 refine aj.ghost 3 2 (sz0:=0) rfl (by simp[ae]) ?_
 simp only[ins,↓reduceIte,List.append_assoc,List.cons_append,List.nil_append,List.length_append,List.length_cons,List.length_nil,Nat.zero_add,Nat.reduceEqDiff]
 refine aj.bE (Tryz.ah (S:=S) 22 (fun _=>([],[])) fE dJ) ents.length (fun _=>True) (fun i=>[(3,.list (.own (σ.length+1)) 2 (((ents.take i).map fun x=>bF (bS x hands).1).map Rng.av)),(4,.int .i64 i)]) (fun i j=>σ++(.cells [.int .i64 hands,.int .i64 skill,.int .i64 mn,.int .i64 mx,.list .no 2 (sets.map Sg.av),.list .no 6 (ents.map Tn.av)]:: .tail i 2::j)) [] (by kernel_rfl) (by simp) (by simp[upd,ins,aw,ae]) trivial ?_ ?_
 ·intro i j hi _ ih
  have hidx:idx (ents.map Tn.av) (i:Int)=some (Tn.av ents[i]):=bu hi
  have hpi:=hp _ (List.getElem_mem hi)
  have hst:(ents.take (i+1)).map (fun x=>bF (bS x hands).1)=(ents.take i).map (fun x=>bF (bS x hands).1)++[bF (bS ents[i] hands).1]:=by rw[List.take_succ_eq_append_getElem hi,List.map_append];rfl
  rw[hst] at ih
  have hbl:((ents.take i).map fun x=>bF (bS x hands).1).length=i:=by rw[List.length_map,List.length_take];omega
  have hwi:IntKind.i64.wrap ((i:Int)+1)=((i+1:Nat):Int):=by rw[wrap64 (by omega) (by omega)];rfl
  have hcl:∀x:Rng,x.av.cells.length=2:=fun _=>rfl
  have hfl:∀x:Rng,x.av.flat=true:=fun _=>rfl
  generalize bF (bS ents[i] hands).1=d at *
  generalize ents[i]=x at *
  generalize (ents.take i).map (fun x=>bF (bS x hands).1)=B at *
  simp only[Tn.av,Tn.cells] at hidx hpi
  simp -implicitDefEqProofs (maxSteps:=9^9) (disch:=omega) only[go_sem,simprocAttr,hidx]
  refine hpi _ _ ?_
  simp -implicitDefEqProofs (maxSteps:=9^9) (disch:=omega) only[go_sem,simprocAttr,hidx,hwi,hbl,hcl,hfl]
  exact(ih trivial j).ay (by simp) (by simp[upd,ins,aw,ae])
 ·intro j _
  rw[List.take_length]
  simp -implicitDefEqProofs (maxSteps:=9^9) (disch:=omega) only[go_sem,simprocAttr]
end Go.Proofs
