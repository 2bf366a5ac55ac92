/- Texts of a proof: lemmas. -/
import Derived.Test.YtgbdndlmdklefaaGreatHK34
import Derived.Test.YtgbdndlmdklefaaGreatHK38
import Derived.Test.YtgbdndlmdklefaaGreatHK40
import Derived.Test.YtgbdndlmdklefaaGreatHK36
set_option linter.unusedSimpArgs false
set_option linter.unusedVariables false
set_option maxRecDepth 100000
set_option maxHeartbeats 40000000
namespace Go.Proofs
open Go Go.Mu Go.Ins Go.Shelf
def Rm:List FuncId:=[88,141,142,182,183,184,185,186,187,188,189,190,191,192,218,219,220,221,222,223,236,89]
theorem zD:LOK Tryz.prog (fun f=>Rm.contains f):=LOK.PS (by kernel_rfl) (by kernel_rfl) (by kernel_rfl)
theorem PE(zs:List Int)(hz:0<zs.length)(hn:zs.length≤1000000){σ:List aa}{r:Nat}(hg:ai σ r=some (.vec 1 (zs.map (.int .i64)))){Q:AV→List aa→Prop}(h:Q (.tup []) (ax σ r (.vec 1 ((cu leI zs).map (.int .i64))))) :
  ao aV 88 [.vec r zs.length] σ Q:=by
 have e:(zs.mergeSort fun x y=>decide (x≤y))=cu leI zs:=by
  refine iM dO fe oI ?_ (List.mergeSort_perm _ _)
  refine(List.pairwise_mergeSort (le:=fun x y=>decide (x≤y)) (fun a b c h1 h2=>?_) (fun a b=>?_) zs).imp fun{a b} h=>by unfold leI;simpa using h
  ·simp only[decide_eq_true_eq] at h1 h2⊢;omega
  ·simp only[Bool.or_eq_true,decide_eq_true_eq];omega
 rw[← e] at h
 exact Sd Tryz.ON zD (by kernel_rfl) (aW.of Tryz.func88 (by kernel_rfl) (by kernel_rfl)) zs (List.length_pos_iff.1 hz) (by omega) hg h
def jK(l:List Int):List Int:=Lib.compactUpTo l.toArray l.length
theorem C3(zs:List Int)(hz:0<zs.length)(hn:zs.length≤1000000){σ:List aa}{r:Nat}(hg:ai σ r=some (.vec 1 (zs.map (.int .i64)))){Q:AV→List aa→Prop}(h:Q (.list .no 1 ((jK zs).map (.int .i64))) (ax σ r .dead)) :
  ao aV 89 [.vec r zs.length] σ Q:=
 Im Tryz.Q7 zD (by kernel_rfl) (aW.of Tryz.func89 (by kernel_rfl) (by kernel_rfl)) zs (List.length_pos_iff.1 hz) (by omega) hg h
theorem kK{l:List Int}(hs:l.Pairwise (· ≤·)):∀m,m≤l.length→(Lib.compactUpTo l.toArray m).Pairwise (· < ·)∧∀x,x∈Lib.compactUpTo l.toArray m↔x∈l.take m
 | 0,_=>by simp[Lib.compactUpTo]
 | m+1,hm=>by
  obtain⟨h1,h2⟩:=kK hs m (by omega)
  rw[Lib.compactUpTo_succ]
  have hg:∀j (h:j<l.length),l.toArray[j]! = l[j]:=fun j h=>by rw[getElem!_pos l.toArray j (by simpa using h)];simp
  rw[hg m (by omega)]
  have htk:l.take (m+1)=l.take m++[l[m]]:=List.take_succ_eq_append_getElem (by omega)
  cases hk:Lib.keeps l.toArray m
  ·rw[if_neg (by simp),List.append_nil]
   refine⟨h1,fun x=>?_⟩
   rw[h2 x,htk,List.mem_append,List.mem_singleton]
   constructor
   ·exact .inl
   ·rintro(h | rfl)
    ·exact h
    ·unfold Lib.keeps at hk
     have hk:=of_decide_eq_false hk
     have hm0:m≠0:=fun e=>hk (.inl e)
     have he:l.toArray[m]! = l.toArray[m-1]! :=Classical.byContradiction fun e=>hk (.inr e)
     rw[hg m (by omega),hg (m-1) (by omega)] at he
     rw[he,List.mem_take_iff_getElem]
     exact⟨m-1,by omega,rfl⟩
  ·rw[if_pos rfl]
   refine⟨List.pairwise_append.2 ⟨h1,by simp,fun a ha b hb=>?_⟩,fun x=>by rw[List.mem_append,h2 x,htk,List.mem_append]⟩
   rw[List.mem_singleton] at hb;subst hb
   obtain⟨j,hj,rfl⟩:=List.mem_take_iff_getElem.1 ((h2 a).1 ha)
   have hj2:j<m:=by omega
   unfold Lib.keeps at hk
   have hk:=of_decide_eq_true hk
   have hne:l.toArray[m]!≠l.toArray[m-1]! :=by rcases hk with e | e;omega;exact e
   rw[hg m (by omega),hg (m-1) (by omega)] at hne
   have hp:=List.pairwise_iff_getElem.1 hs
   have e1:l[j]≤l[m-1]:=by
    by_cases e:j=m-1
    ·subst e;exact Int.le_refl _
    ·exact hp j (m-1) (by omega) (by omega) (by omega)
   have e2:l[m-1]≤l[m]:=hp (m-1) m (by omega) (by omega) (by omega)
   omega
theorem AR(l:List Int):(jK (cu leI l)).Pairwise (· < ·):=(kK (eZ dO fe l) _ (Nat.le_refl _)).1
theorem zQ{l:List Int}{x:Int}:x∈jK (cu leI l)↔x∈l:=by
 unfold jK
 rw[(kK (eZ dO fe l) _ (Nat.le_refl _)).2 x,List.take_length]
 exact(de (le:=leI) l).mem_iff
end Go.Proofs
namespace Go.Proofs
open Go Go.Mu Go.Ins
def dE(r:Ros)(h:Int):List Int:=if bT r h=0 then jK (cu leI (aO (aE r (aq r)) h)) else[]
theorem Jw(r:Ros)(hf:r.Fit)(h:Int)(hE:bT r h=0):al aV 25 [r.av,.int .i64 h] (.tup [ar (dE r h),.int .i64 0]):=by
 intro σ Q hq
 rw[show dE r h=jK (cu leI (aO (aE r (aq r)) h)) from if_pos hE] at hq
 have hk:aC r [aM r.hands h]=0:=by
  unfold bT at hE
  exact Classical.byContradiction fun hc=>by rw[if_pos hc] at hE;exact hc hE
 have hne:aO (aE r (aq r)) h≠[]:=by
  unfold bT at hE
  rw[if_neg (fun hc=>hc hk)] at hE
  intro e
  rw[if_pos e] at hE;cases hE
 clear hE
 refine ao.clean ?_
 refine AcE (Tryz.ah (S:=aV) 47 Tryz.nU dk cx) Tryz.EL Tryz.func25 rfl ?_
 simp only[Ros.av]
 simp -implicitDefEqProofs (maxSteps:=9^9) (disch:=omega) only[go_sem,simprocAttr]
 refine iI r h _ _ ?_
 simp -implicitDefEqProofs (maxSteps:=9^9) (disch:=omega) only[go_sem,simprocAttr]
 refine ao.weaken (l':=[r.av,.list .no 1 ([aM r.hands h].map (.int .i64))]) ⟨⟨rfl,rfl,rfl,rfl,⟨rfl,.inl rfl,.inl rfl⟩,⟨rfl,.inl rfl,.inl rfl⟩,trivial⟩,⟨rfl,.inl rfl,.inl rfl⟩,trivial⟩ ?_
 refine gm r hf [aM r.hands h] (by simp) (fun hE j=>absurd hk hE) (fun hO hg a j ha hm=>?_)
 have hh:=jQ hO
 have hh4:=hg.hands
 have hlen:=gH hg.toHead (ds:=aq r)
 have hokL:=gT hg
 simp only[Ros.wav]
 have hm1:ai (σ++aa.cells [.int .i64 r.hands,.int .i64 r.skill,.int .i64 r.mn,.int .i64 r.mx,.list .no 2 (r.sets.map Sg.av),.list .no 6 (r.ents.map Tn.av)]::(j++[aa.cells [AV.int .i64 r.hands,.int .i64 r.skill,.int .i64 r.mn,.int .i64 r.mx,.list .no 2 (r.sets.map Sg.av),.list .no 6 (r.ents.map Tn.av),.list .no 1 ((aq r).map ar)]])) a=some (.map (bh (aE r (aq r)))):=by
  have:=fD (l:=[aa.cells (r.az (aq r))]) hm;simpa[Ros.az] using this
 generalize aE r (aq r)=L at *
 have hml:(bh L).length=L.length:=by simp[bh]
 simp -implicitDefEqProofs (maxSteps:=9^9) (disch:=omega) only[go_sem,simprocAttr,hm1,hml]
 obtain⟨J,hJ⟩:∃J,aa.cells [.int .i64 r.hands,.int .i64 r.skill,.int .i64 r.mn,.int .i64 r.mx,.list .no 2 (r.sets.map Sg.av),.list .no 6 (r.ents.map Tn.av)]::(j++[aa.cells [AV.int .i64 r.hands,.int .i64 r.skill,.int .i64 r.mn,.int .i64 r.mx,.list .no 2 (r.sets.map Sg.av),.list .no 6 (r.ents.map Tn.av),.list .no 1 ((aq r).map ar)]])=J:=⟨_,rfl⟩
 obtain⟨σ1,hσ1⟩:∃σ1,σ1=σ++J:=⟨_,rfl⟩
 have e1:∀it,σ++aa.cells [.int .i64 r.hands,.int .i64 r.skill,.int .i64 r.mn,.int .i64 r.mx,.list .no 2 (r.sets.map Sg.av),.list .no 6 (r.ents.map Tn.av)]::(j++[aa.cells [AV.int .i64 r.hands,.int .i64 r.skill,.int .i64 r.mn,.int .i64 r.mx,.list .no 2 (r.sets.map Sg.av),.list .no 6 (r.ents.map Tn.av),.list .no 1 ((aq r).map ar)],it])=σ1++[it]:=fun it=>by rw[hσ1,← hJ];simp
 have e2:σ.length+(j.length+1+1)=σ1.length:=by rw[hσ1,← hJ];simp
 rw[e1,e2]
 rw[hJ,← hσ1] at hm1
 have hσf:∀l,∃junk,σ1++l=σ++junk:=fun l=>⟨J++l,by rw[hσ1,List.append_assoc]⟩
 have hσl:σ.length≤σ1.length:=by rw[hσ1];simp
 clear e1 e2 hJ hm ha hσ1
 have hm2:∀l,ai (σ1++l) a=some (.map (bh L)):=fun l=>fD hm1
 refine aj.pQ 9 1 (sz0:=0) rfl (by simp[ae]) ?_
 simp only[ins,↓reduceIte,List.append_assoc,List.cons_append,List.nil_append,List.length_append,List.length_cons,List.length_nil,Nat.zero_add,Nat.reduceEqDiff,Nat.reduceAdd]
 refine aj.eL (Tryz.ah (S:=aV) 47 Tryz.nU dk cx) (α:=List Nat) (fun a=>L.length-a.length) (fun seen τ=>(∃j,τ=σ1++(.iter (some a) L.length seen:: .vec 1 ((aO (seen.map fun i=>L.getD i []) h).map (.int .i64))::j))∧seen.Nodup∧∀i∈seen,i<L.length) (fun seen=>[(9,.vec (σ1.length+1) (aO (seen.map fun i=>L.getD i []) h).length)]) [] (by kernel_rfl) (by simp[upd,ins,aw,ae,aO]) ⟨⟨[],by simp[aO]⟩,by simp,by simp⟩ ?_
 rintro seen τ ⟨⟨j,rfl⟩,hnd',hlt⟩ ih
 have hsl:=eE hnd' hlt
 have hrl:(aO (seen.map fun i=>L.getD i []) h).length≤seen.length:=by
  have:=qW (L:=seen.map fun i=>L.getD i []) (h:=h);simpa using this
 simp -implicitDefEqProofs (maxSteps:=9^9) (disch:=omega) only[go_sem,simprocAttr]
 refine fy (q:=a) (c:=L.length) (seen:=seen) (es:=bh L) (by rw[a8];rfl) (hm2 _) hml.symm (fun i2 k v hi2 hns=>?_) (fun hall=>?_)
 ·obtain⟨x,hx,hkv⟩:∃x,L[i2]? = some x∧(rtv x,AV.bool true)=(k,v):=by simpa[bh] using hi2
  simp only[Prod.mk.injEq] at hkv
  obtain⟨rfl,rfl⟩:=hkv
  have hil:=(List.getElem?_eq_some_iff.1 hx).1
  have hxm:x∈L:=List.mem_of_getElem? hx
  have hok:=hokL x hxm
  have hgd:L.getD i2 []=x:=by rw[List.getD_eq_getElem?_getD,hx];rfl
  have hgl:(seen++[i2]).getLast? = some i2:=by simp
  have hnd2:(seen++[i2]).Nodup:=by
   rw[List.nodup_append]
   exact⟨hnd',by simp,fun a ha b hb e=>by simp at hb;subst hb;exact hns (e▸ha)⟩
  have hlt2:∀i∈seen++[i2],i<L.length:=fun i hi=>by
   rcases List.mem_append.1 hi with hi | hi
   ·exact hlt i hi
   ·simp at hi;omega
  have hsl2:=eE hnd2 hlt2
  rw[List.length_append,List.length_singleton] at hsl2
  have ih2:=ih (seen++[i2])
  have hmm:(seen++[i2]).map (fun i=>L.getD i [])=seen.map (fun i=>L.getD i [])++[x]:=by rw[List.map_append];simp only[List.map_cons,List.map_nil,hgd]
  rw[hmm,pU] at ih2
  clear hmm
  generalize aO (seen.map fun i=>L.getD i []) h=R at hrl ih2⊢
  have hxl:=hok.len
  obtain⟨b,c,e,f,hxe⟩:=mF hok.len
  have hi3:(bh L)[i2]? = some (.agg [.int .i64 b,.int .i64 c,.int .i64 e,.int .i64 f],.bool true):=by rw[hi2,hxe];rfl
  have hxx:[AV.int .i64 b,.int .i64 c,.int .i64 e,.int .i64 f]=x.map (AV.int .i64):=by rw[hxe];rfl
  rw[hxx] at hi3
  have hput:putAt 0 (x.map (AV.int .i64)) [.int .i64 0,.int .i64 0,.int .i64 0,.int .i64 0]=x.map (AV.int .i64):=by rw[hxe];rfl
  by_cases hz:tg x h=0
  ·rw[if_pos hz,List.append_nil] at ih2
   have hz':(tg x h=0)=True:=eq_true hz
   simp -implicitDefEqProofs (maxSteps:=9^9) (disch:=omega) only[go_sem,simprocAttr,hm2,hgl,hi3,hml,hput,hz']
   exact(ih2 _ (by rw[List.length_append,List.length_singleton];omega) ⟨⟨j++[.cells (x.map (.int .i64))],rfl⟩,hnd2,hlt2⟩).ay rfl (by simp[upd,ins,aw,ae])
  ·rw[if_neg hz] at ih2
   have hz':(tg x h=0)=False:=eq_false hz
   simp -implicitDefEqProofs (maxSteps:=9^9) (disch:=omega) only[go_sem,simprocAttr,hm2,hgl,hi3,hml,hput,hz']
   exact(ih2 _ (by rw[List.length_append,List.length_singleton];omega) ⟨⟨j++[.cells (x.map (.int .i64))],rfl⟩,hnd2,hlt2⟩).ay (by simp) (by simp[upd,ins,aw,ae])
 ·have hall':∀i,i<L.length→i∈seen:=fun i hi=>hall i (by rw[hml];exact hi)
  have hps:=pL (h:=h) (kA ([]:List Int) hnd' hlt hall')
  have hso:cu leI (aO (seen.map fun i=>L.getD i []) h)=cu leI (aO L h):=
   iM dO fe oI (eZ dO fe _) ((de _).trans hps)
  have hil2:=(de (le:=leI) (aO L h)).length_eq
  have hl2:=hps.length_eq
  have hpos:0<(aO L h).length:=List.length_pos_iff.2 hne
  rw[← hso] at hil2 hq
  clear hne ih hps hso
  generalize aO (seen.map fun i=>L.getD i []) h=R at *
  have hn0:((R.length:Int)=0)=False:=eq_false (by omega)
  simp -implicitDefEqProofs (maxSteps:=9^9) (disch:=omega) only[go_sem,simprocAttr,hn0]
  refine PE R (by omega) (by omega) (by rw[aZ];rfl) ?_
  simp -implicitDefEqProofs (maxSteps:=9^9) (disch:=omega) only[go_sem,simprocAttr]
  have hRl:R.length=(cu leI R).length:=by omega
  rw[hRl]
  refine C3 (cu leI R) (by omega) (by omega) (by rw[aZ];rfl) ?_
  simp -implicitDefEqProofs (maxSteps:=9^9) (disch:=omega) only[go_sem,simprocAttr]
  refine⟨_,_,(hσf _).choose_spec,dI.refl _,?_,hq⟩
  exact(Plain.tup (by simp;exact⟨Plain.ints,.int⟩)) _
theorem Aj(e:Int):Plain (.tup [ar [],.int .i64 e]):= .tup (by simp;exact⟨Plain.ints,.int⟩)
theorem Jf(r:Ros)(hf:r.Fit)(h:Int)(hE:bT r h≠0):al aV 25 [r.av,.int .i64 h] (.tup [ar [],.int .i64 (bT r h)]):=by
 refine PvE (Tryz.ah (S:=aV) 47 Tryz.nU dk cx) (Aj _) Tryz.EL Tryz.func25 rfl ?_
 intro σ
 simp only[Ros.av]
 simp -implicitDefEqProofs (maxSteps:=9^9) (disch:=omega) only[go_sem,simprocAttr]
 refine iI r h _ _ ?_
 simp -implicitDefEqProofs (maxSteps:=9^9) (disch:=omega) only[go_sem,simprocAttr]
 refine ao.weaken (l':=[r.av,.list .no 1 ([aM r.hands h].map (.int .i64))]) ⟨⟨rfl,rfl,rfl,rfl,⟨rfl,.inl rfl,.inl rfl⟩,⟨rfl,.inl rfl,.inl rfl⟩,trivial⟩,⟨rfl,.inl rfl,.inl rfl⟩,trivial⟩ ?_
 refine gm r hf [aM r.hands h] (by simp) (fun hK j=>?_) (fun hO hg a j ha hm=>?_)
 ·have hK':(aC r [aM r.hands h]=0)=False:=eq_false hK
  rw[show bT r h=aC r [aM r.hands h] from if_pos hK]
  simp -implicitDefEqProofs (maxSteps:=9^9) (disch:=omega) only[go_sem,simprocAttr,hK',oo]
  exact⟨rfl,.inr rfl,.inl rfl⟩
 have hz:aO (aE r (aq r)) h=[]:=by
  unfold bT at hE
  rw[if_neg (fun c=>c hO)] at hE
  exact Classical.byContradiction fun hc=>by rw[if_neg hc] at hE;exact hE rfl
 have e11:bT r h=11:=by
  unfold bT
  rw[if_neg (fun c=>c hO),if_pos hz]
 rw[e11]
 clear hE e11
 have hh:=jQ hO
 have hh4:=hg.hands
 have hlen:=gH hg.toHead (ds:=aq r)
 have hokL:=gT hg
 simp only[Ros.wav]
 have hm1:ai (σ++aa.cells [.int .i64 r.hands,.int .i64 r.skill,.int .i64 r.mn,.int .i64 r.mx,.list .no 2 (r.sets.map Sg.av),.list .no 6 (r.ents.map Tn.av)]::(j++[aa.cells [AV.int .i64 r.hands,.int .i64 r.skill,.int .i64 r.mn,.int .i64 r.mx,.list .no 2 (r.sets.map Sg.av),.list .no 6 (r.ents.map Tn.av),.list .no 1 ((aq r).map ar)]])) a=some (.map (bh (aE r (aq r)))):=by
  have:=fD (l:=[aa.cells (r.az (aq r))]) hm;simpa[Ros.az] using this
 generalize aE r (aq r)=L at *
 have hml:(bh L).length=L.length:=by simp[bh]
 simp -implicitDefEqProofs (maxSteps:=9^9) (disch:=omega) only[go_sem,simprocAttr,hm1,hml]
 obtain⟨J,hJ⟩:∃J,aa.cells [.int .i64 r.hands,.int .i64 r.skill,.int .i64 r.mn,.int .i64 r.mx,.list .no 2 (r.sets.map Sg.av),.list .no 6 (r.ents.map Tn.av)]::(j++[aa.cells [AV.int .i64 r.hands,.int .i64 r.skill,.int .i64 r.mn,.int .i64 r.mx,.list .no 2 (r.sets.map Sg.av),.list .no 6 (r.ents.map Tn.av),.list .no 1 ((aq r).map ar)]])=J:=⟨_,rfl⟩
 obtain⟨σ1,hσ1⟩:∃σ1,σ1=σ++J:=⟨_,rfl⟩
 have e1:∀it,σ++aa.cells [.int .i64 r.hands,.int .i64 r.skill,.int .i64 r.mn,.int .i64 r.mx,.list .no 2 (r.sets.map Sg.av),.list .no 6 (r.ents.map Tn.av)]::(j++[aa.cells [AV.int .i64 r.hands,.int .i64 r.skill,.int .i64 r.mn,.int .i64 r.mx,.list .no 2 (r.sets.map Sg.av),.list .no 6 (r.ents.map Tn.av),.list .no 1 ((aq r).map ar)],it])=σ1++[it]:=fun it=>by rw[hσ1,← hJ];simp
 have e2:σ.length+(j.length+1+1)=σ1.length:=by rw[hσ1,← hJ];simp
 rw[e1,e2]
 rw[hJ,← hσ1] at hm1
 have hσf:∀l,∃junk,σ1++l=σ++junk:=fun l=>⟨J++l,by rw[hσ1,List.append_assoc]⟩
 have hσl:σ.length≤σ1.length:=by rw[hσ1];simp
 clear e1 e2 hJ hm ha hσ1
 have hm2:∀l,ai (σ1++l) a=some (.map (bh L)):=fun l=>fD hm1
 refine aj.eL (Tryz.ah (S:=aV) 47 Tryz.nU dk cx) (α:=List Nat) (fun a=>L.length-a.length) (fun seen τ=>(∃j,τ=σ1++(.iter (some a) L.length seen::j))∧seen.Nodup∧∀i∈seen,i<L.length) (fun seen=>[]) [] (by kernel_rfl) (by simp[upd,ins,aw,ae]) ⟨⟨[],by simp⟩,by simp,by simp⟩ ?_
 rintro seen τ ⟨⟨j,rfl⟩,hnd',hlt⟩ ih
 have hsl:=eE hnd' hlt
 simp -implicitDefEqProofs (maxSteps:=9^9) (disch:=omega) only[go_sem,simprocAttr]
 refine fy (q:=a) (c:=L.length) (seen:=seen) (es:=bh L) (by rw[a8];rfl) (hm2 _) hml.symm (fun i2 k v hi2 hns=>?_) (fun hall=>?_)
 ·obtain⟨x,hx,hkv⟩:∃x,L[i2]? = some x∧(rtv x,AV.bool true)=(k,v):=by simpa[bh] using hi2
  simp only[Prod.mk.injEq] at hkv
  obtain⟨rfl,rfl⟩:=hkv
  have hil:=(List.getElem?_eq_some_iff.1 hx).1
  have hxm:x∈L:=List.mem_of_getElem? hx
  have hok:=hokL x hxm
  have hgl:(seen++[i2]).getLast? = some i2:=by simp
  have hnd2:(seen++[i2]).Nodup:=by
   rw[List.nodup_append]
   exact⟨hnd',by simp,fun a ha b hb e=>by simp at hb;subst hb;exact hns (e▸ha)⟩
  have hlt2:∀i∈seen++[i2],i<L.length:=fun i hi=>by
   rcases List.mem_append.1 hi with hi | hi
   ·exact hlt i hi
   ·simp at hi;omega
  have hsl2:=eE hnd2 hlt2
  rw[List.length_append,List.length_singleton] at hsl2
  have ih2:=ih (seen++[i2])
  have hxl:=hok.len
  obtain⟨b,c,e,f,hxe⟩:=mF hok.len
  have hi3:(bh L)[i2]? = some (.agg [.int .i64 b,.int .i64 c,.int .i64 e,.int .i64 f],.bool true):=by rw[hi2,hxe];rfl
  have hxx:[AV.int .i64 b,.int .i64 c,.int .i64 e,.int .i64 f]=x.map (AV.int .i64):=by rw[hxe];rfl
  rw[hxx] at hi3
  have hput:putAt 0 (x.map (AV.int .i64)) [.int .i64 0,.int .i64 0,.int .i64 0,.int .i64 0]=x.map (AV.int .i64):=by rw[hxe];rfl
  have hz':(tg x h=0)=True:=eq_true (by
   apply Classical.byContradiction
   intro hc
   have:tg x h∈aO L h:=by
    unfold aO
    exact List.mem_filter.2 ⟨List.mem_map.2 ⟨x,hxm,rfl⟩,by simpa using hc⟩
   rw[hz] at this;simp at this)
  simp -implicitDefEqProofs (maxSteps:=9^9) (disch:=omega) only[go_sem,simprocAttr,hm2,hgl,hi3,hml,hput,hz']
  exact(ih2 _ (by rw[List.length_append,List.length_singleton];omega) ⟨⟨j++[.cells (x.map (.int .i64))],rfl⟩,hnd2,hlt2⟩).ay rfl (by simp[upd,ins,aw,ae])
 ·simp -implicitDefEqProofs (maxSteps:=9^9) (disch:=omega) only[go_sem,simprocAttr]
  exact⟨hσf _,⟨rfl,.inr rfl,.inl rfl⟩,rfl,trivial⟩
theorem OF(r:Ros)(hf:r.Fit)(h:Int):al aV 25 [r.av,.int .i64 h] (.tup [ar (dE r h),.int .i64 (bT r h)]):=by
 by_cases hE:bT r h=0
 ·rw[hE];exact Jw r hf h hE
 ·rw[show dE r h=[] from if_neg hE];exact Jf r hf h hE
theorem Fo(r:Ros)(h:Int):(dE r h).Pairwise (· < ·):=by
 unfold dE;split
 ·exact AR _
 ·exact .nil
theorem ER{r:Ros}{h:Int}(hk:aC r [aM r.hands h]=0){n:Int}:n∈dE r h↔n≠0∧∃x∈aE r (aq r),tg x h=n:=by
 have key:n∈aO (aE r (aq r)) h↔n≠0∧∃x∈aE r (aq r),tg x h=n:=by
  unfold aO
  rw[List.mem_filter,List.mem_map,decide_eq_true_iff]
  exact And.comm
 have hE:bT r h=if aO (aE r (aq r)) h=[] then 11 else 0:=by
  unfold bT
  rw[if_neg (fun c=>c hk)]
 unfold dE
 by_cases hr:aO (aE r (aq r)) h=[]
 ·rw[if_pos hr] at hE
  rw[hE,if_neg (by decide),← key,hr]
 ·rw[if_neg hr] at hE
  rw[hE,if_pos rfl,zQ];exact key
theorem Cg{r:Ros}{ws:List Int}(h:aC r []=0)(hz:bn ws=0):aC r ws=0:=by
 unfold aC at h⊢
 by_cases h1:bP r≠0
 ·rw[if_pos h1] at h;exact absurd h h1
 ·rw[if_neg h1] at h⊢
  rw[if_neg (fun c=>c hz)]
  rw[if_neg (by show¬bn []≠0;exact fun c=>c rfl)] at h
  exact h
end Go.Proofs
namespace Go.Proofs
open Go Go.Mu Go.Ins
variable {S:MC Tryz.prog}
/-! The reference's Rates. -/
def xL(X:List (List Int))(h n:Int):Bool:=decide (n≠0)&&X.any fun x=>decide (tg x h=n)
def dx(r:Ros)(X:List (List Int))(h:Int)(k:Nat):List Int:=((List.range k).map fun(k:Nat)=>r.mn+(k:Int)).filter fun n=>xL X h n
theorem Aa{r:Ros}{X:List (List Int)}{h:Int}{k:Nat}:dx r X h (k+1)=dx r X h k++if xL X h (r.mn+k)=true then[r.mn+(k:Int)] else[]:=by
 unfold dx
 rw[List.range_succ,List.map_append,List.filter_append]
 simp only[List.map_cons,List.map_nil,List.filter_cons,List.filter_nil]
def dU(r:Ros)(h:Int):List Int:=dx r (eO r).2 h (r.mx-r.mn+1).toNat
theorem Gm(m:Int)(n:Nat):((List.range n).map fun(k:Nat)=>m+(k:Int)).Pairwise (· < ·):=by
 rw[List.pairwise_map]
 exact List.pairwise_lt_range.imp fun h=>by omega
theorem Pm:∀{a b:List Int},a.Pairwise (· < ·)→b.Pairwise (· < ·)→(∀x,x∈a↔x∈b)→a=b:=by
 intro a b ha hb h
 have na:a.Nodup:=ha.imp fun h e=>by omega
 have nb:b.Nodup:=hb.imp fun h e=>by omega
 exact((List.perm_ext_iff_of_nodup na nb).2 h).eq_of_pairwise (fun x y _ _ h1 h2=>by omega) ha hb
theorem tp{r:Ros}(hk:aC r []=0){h:Int}(hh:0≤h∧h<r.hands):aC r [aM r.hands h]=0∧(bT r h=if dU r h=[] then 11 else 0)∧(dE r h=dU r h):=by
 have hg:=ej hk
 have hh4:=hg.hands
 have hmn:=hg.mn
 have hro:bP r=0:=Classical.byContradiction fun c=>by rw[kz c] at hk;exact c hk
 have hz:aM r.hands h=0:=by
  unfold aM
  rw[wrap64 (by omega) (by omega)]
  exact if_pos (by omega)
 have hkn:aC r [aM r.hands h]=0:=Cg hk (by rw[hz];rfl)
 rcases kD hg hro with⟨_,_,_,hm⟩ | ⟨h11,_⟩
 ·have hmem:∀n,n∈dU r h↔n≠0∧∃x∈aE r (aq r),tg x h=n:=by
   intro n
   unfold dU dx xL
   rw[List.mem_filter,Bool.and_eq_true,decide_eq_true_eq,List.any_eq_true]
   constructor
   ·rintro⟨_,h0,x,hx,he⟩
    refine⟨h0,gC x,(hm _).2 ⟨x,hx,rfl⟩,?_⟩
    rw[nB];exact of_decide_eq_true he
   ·rintro⟨h0,u,hu,he⟩
    obtain⟨x,hx,rfl⟩:=(hm u).1 hu
    rw[nB] at he
    refine⟨?_,h0,x,hx,decide_eq_true he⟩
    have hR:r.mn≤n∧n≤r.mx:=by
     obtain⟨hl,_⟩:=vz hg.toHead hx
     have hxe:=he
     have key:∀(m:Nat) (b y:List Int) (l:List Int) (D:List Rng),y∈cO r D l m b→(∀v∈b,v=0∨r.mn≤v∧v≤r.mx)→∀v∈y,v=0∨r.mn≤v∧v≤r.mx:=by
      intro m
      induction m with
      | zero=>
       intro b y l D hy hb
       unfold cO at hy
       split at hy
       ·simp at hy;subst hy;exact hb
       ·cases hy
      | succ m ih=>
       intro b y l D hy hb
       unfold cO at hy
       split at hy
       ·obtain⟨k,hk1,hy⟩:=List.mem_flatMap.1 hy
        have hk1:=List.mem_range.1 hk1
        split at hy
        ·cases hy
        ·refine ih _ y l D hy fun v hv=>?_
         rcases List.mem_append.1 hv with hv | hv
         ·exact hb v hv
         ·simp at hv;right;omega
       ·refine ih _ y l D hy fun v hv=>?_
        rcases List.mem_append.1 hv with hv | hv
        ·exact hb v hv
        ·simp at hv;left;exact hv
     have key2:∀n k,∀y∈(eg r ((aq r).map bF) n k).2,∀v∈y,v=0∨r.mn≤v∧v≤r.mx:=by
      intro n
      induction n with
      | zero=>intro k y hy;cases hy
      | succ n ih=>
       intro k y hy
       unfold eg at hy
       split at hy
       ·exact ih _ y hy
       ·obtain⟨l,_,hy⟩:=List.mem_flatMap.1 hy
        exact key _ _ y l _ hy (by simp)
     have hmx:tg x h∈x:=by
      have hlt:h.toNat<x.length:=by omega
      have:tg x h=x[h.toNat]:=by simp[tg,List.getD_eq_getElem?_getD,List.getElem?_eq_getElem hlt]
      rw[this];exact List.getElem_mem _
     rcases key2 _ _ x hx _ hmx with g | g
     ·exact absurd (he▸g) h0
     ·rw[he] at g;exact g
    exact List.mem_map.2 ⟨(n-r.mn).toNat,List.mem_range.2 (by omega),by omega⟩
  have hU:dE r h=dU r h:=by
   refine Pm (Fo r h) ?_ fun n=>?_
   ·exact(Gm _ _).filter _
   ·rw[ER hkn,hmem]
  refine⟨hkn,?_,hU⟩
  unfold bT
  rw[if_neg (fun c=>c hkn)]
  have e:aO (aE r (aq r)) h=[]↔dU r h=[]:=by
   rw[List.eq_nil_iff_forall_not_mem,List.eq_nil_iff_forall_not_mem]
   refine forall_congr' fun n=>not_congr ?_
   rw[hmem]
   unfold aO
   rw[List.mem_filter,List.mem_map,decide_eq_true_eq]
   exact⟨fun⟨⟨x,h1,h2⟩,h3⟩=>⟨h3,x,h1,h2⟩,fun⟨h3,x,h1,h2⟩=>⟨⟨x,h1,h2⟩,h3⟩⟩
  by_cases c:dU r h=[]
  ·rw[if_pos c,if_pos (e.2 c)]
  ·rw[if_neg c,if_neg (fun q=>c (e.1 q))]
 ·rw[hk] at h11;cases h11
theorem AZ{r:Ros}(hr:r.Head)(h:Int):(dU r h).length≤11:=by
 have hm:=hr.mn
 unfold dU dx
 refine Nat.le_trans (List.length_filter_le _ _) ?_
 rw[List.length_map,List.length_range]
 omega
theorem CW(r:Ros)(h:Int):(dE r h).length≤11:=by
 by_cases hE:bT r h=0
 ·have hk:aC r [aM r.hands h]=0:=Classical.byContradiction fun c=>by unfold bT at hE;rw[if_pos c] at hE;exact c hE
  have hk0:aC r []=0:=by
   unfold aC at hk⊢
   by_cases h1:bP r=0
   ·rw[if_neg (fun c=>c h1)] at hk⊢
    rw[if_neg (fun c=>c rfl)]
    by_cases h2:bn [aM r.hands h]=0
    ·rw[if_neg (fun c=>c h2)] at hk;exact hk
    ·rw[if_pos h2] at hk;exact absurd hk h2
   ·rw[if_pos h1] at hk;exact absurd hk h1
  rw[(tp hk0 (jQ hk)).2.2]
  exact AZ (ej hk).toHead h
 ·unfold dE;rw[if_neg hE];simp
theorem KG(r:Ros)(hf:r.Fit)(h:Int):al S 55 [r.av,.int .i64 h] (.tup [ar (dE r h),.int .i64 (bT r h)]):=by
 have hch:=yg (S:=S) r hf h
 by_cases h1:gJ r h=0
 ·have hro:bP r=0:=Classical.byContradiction fun c=>by unfold gJ at h1;rw[if_pos c] at h1;exact c h1
  have hhz:aM r.hands h=0:=by unfold gJ at h1;rw[if_neg (fun c=>c hro)] at h1;exact h1
  obtain⟨hg,_,_⟩:=oy hro
  have hh4:=hg.hands
  have hmn:=hg.mn
  have hi:0≤h∧h<r.hands:=by
   unfold aM at hhz
   rw[wrap64 (by omega) (by omega)] at hhz
   split at hhz
   ·omega
   ·cases hhz
  have hfw:=v7 (S:=S) r hg hf
  have hXl:=zc hg.toHead
  have hXi:=fun x=>@vz r hg.toHead x
  have key:dE r h=dU r h∧bT r h=if dU r h=[] then 11 else 0:=by
   rcases kD hg hro with⟨hk,_,_,_⟩ | ⟨hk,h2,_,h4⟩
   ·obtain⟨_,e2,e3⟩:=tp hk hi
    exact⟨e3,e2⟩
   ·have hkh:aC r [aM r.hands h]=11:=by
     unfold aC
     rw[if_neg (fun c=>c hro),hhz,if_neg (by simp[bn]),if_pos h4]
    have hrE:bT r h=11:=by unfold bT;rw[if_pos (by rw[hkh];decide)];exact hkh
    have hV:dU r h=[]:=by
     unfold dU dx xL
     rw[h2]
     simp
    rw[hV,if_pos rfl]
    exact⟨by unfold dE;rw[hrE,if_neg (by decide)],hrE⟩
  rw[key.1,key.2,show dU r h=dx r (eO r).2 h (r.mx-r.mn+1).toNat from rfl]
  rw[h1] at hch
  clear key
  generalize (eO r).1=A at *
  generalize (eO r).2=X at *
  refine PvE (Tryz.ah (S:=S) 65 (fun _=>([],[])) ic fq) (.tup (by simp only[List.mem_cons,List.not_mem_nil,or_false,forall_eq_or_imp,forall_eq];exact⟨(cA _).2,.int⟩)) Tryz.Jm Tryz.func55 rfl ?_
  intro σ
  simp only[Ros.av,c9] at hch hfw⊢
  simp -implicitDefEqProofs (maxSteps:=9^9) (disch:=omega) only[go_sem,simprocAttr]
  refine hch _ _ ?_
  simp -implicitDefEqProofs (maxSteps:=9^9) (disch:=omega) only[go_sem,simprocAttr]
  refine hfw _ _ ?_
  simp -implicitDefEqProofs (maxSteps:=9^9) (disch:=omega) only[go_sem,simprocAttr]
  refine aj.ghost 9 1 (sz0:=0) rfl (by simp[ae]) ?_
  simp only[ins,↓reduceIte,List.append_assoc,List.cons_append,List.nil_append,List.length_append,List.length_cons,List.length_nil,Nat.zero_add,Nat.reduceEqDiff,Nat.reduceAdd]
  refine aj.bE (Tryz.ah (S:=S) 65 (fun _=>([],[])) ic fq) (r.mx-r.mn+1).toNat (fun _=>True) (fun k=>[(9,.list (.own (σ.length+1)) 1 ((dx r X h k).map (.int .i64))),(10,.int .i64 (r.mn+k))]) (fun k _=>σ++[.cells [.int .i64 r.hands,.int .i64 r.skill,.int .i64 r.mn,.int .i64 r.mx,.list .no 2 (r.sets.map Sg.av),.list .no 6 (r.ents.map Tn.av)],.tail (dx r X h k).length 1]) [] (by kernel_rfl) (by simp[dx]) (by simp[upd,ins,aw,ae,dx]) trivial ?_ ?_
  ·intro k j hk _ ih
   have hle:(r.mn+(k:Int)≤r.mx)=True:=eq_true (by omega)
   have hwk:IntKind.i64.wrap (r.mn+(k:Int)+1)=r.mn+((k+1:Nat):Int):=by rw[wrap64 (by omega) (by omega)];omega
   have hRl:(dx r X h k).length≤k:=by unfold dx;refine Nat.le_trans (List.length_filter_le _ _) ?_;simp
   rw[Aa] at ih
   have hmb:xL X h (r.mn+k)=(decide (r.mn+(k:Int)≠0)&&X.any fun x=>decide (tg x h=r.mn+k)):=rfl
   rw[hmb] at ih
   clear hmb
   generalize dx r X h k=R at hRl ih⊢
   generalize r.mn+(k:Int)=n at *
   simp -implicitDefEqProofs (maxSteps:=9^9) (disch:=omega) only[go_sem,simprocAttr,hle]
   refine aj.bE (Tryz.ah (S:=S) 65 (fun _=>([],[])) ic fq) X.length (fun _=>True) (fun i=>[(11,.bool (decide (n≠0)&&(X.take i).any fun x=>decide (tg x h=n))),(12,.int .i64 i)]) (fun _ _=>σ++[.cells [.int .i64 r.hands,.int .i64 r.skill,.int .i64 r.mn,.int .i64 r.mx,.list .no 2 (r.sets.map Sg.av),.list .no 6 (r.ents.map Tn.av)],.tail R.length 1]) [] (by kernel_rfl) (by simp) (by simp[upd,ins,aw,ae]) trivial ?_ ?_
   ·intro i j2 hi2 _ ih2
    have hik:idx (X.map ar) (i:Int)=some (ar X[i]):=bu hi2
    obtain⟨hx1,hx2⟩:=hXi _ (List.getElem_mem hi2)
    have hwi:IntKind.i64.wrap ((i:Int)+1)=((i+1:Nat):Int):=by rw[wrap64 (by omega) (by omega)];rfl
    have hst:((X.take (i+1)).any fun x=>decide (tg x h=n))=(((X.take i).any fun x=>decide (tg x h=n))||decide (tg X[i] h=n)):=by
     rw[List.take_succ_eq_append_getElem hi2,List.any_append];simp
    rw[hst] at ih2
    clear hst
    generalize ((X.take i).any fun x=>decide (tg x h=n))=B at *
    generalize X[i]=x at *
    have hix:idx (x.map (AV.int .i64)) h=some (.int .i64 (tg x h)):=ix ⟨by omega,by omega⟩
    generalize tg x h=t at *
    simp only[ar] at hik
    by_cases c0:n=0
    ·have c0':=eq_true c0
     have d0:decide (n≠0)=false:=decide_eq_false (fun c=>c c0)
     rw[d0,Bool.false_and] at ih2⊢
     simp -implicitDefEqProofs (maxSteps:=9^9) (disch:=omega) only[go_sem,simprocAttr,hik,hix,c0',hwi]
     exact(ih2 trivial []).ay rfl (by simp[upd,ins,aw,ae])
    ·have c0':=eq_false c0
     have d0:decide (n≠0)=true:=decide_eq_true c0
     rw[d0,Bool.true_and] at ih2⊢
     cases B
     ·by_cases c1:t=n
      ·have c1':=eq_true c1
       rw[decide_eq_true c1] at ih2
       simp -implicitDefEqProofs (maxSteps:=9^9) (disch:=omega) only[go_sem,simprocAttr,hik,hix,c0',c1',hwi]
       exact(ih2 trivial []).ay rfl (by simp[upd,ins,aw,ae])
      ·have c1':=eq_false c1
       rw[decide_eq_false c1] at ih2
       simp -implicitDefEqProofs (maxSteps:=9^9) (disch:=omega) only[go_sem,simprocAttr,hik,hix,c0',c1',hwi]
       exact(ih2 trivial []).ay rfl (by simp[upd,ins,aw,ae])
     ·simp -implicitDefEqProofs (maxSteps:=9^9) (disch:=omega) only[go_sem,simprocAttr,hik,hix,c0',hwi]
      exact(ih2 trivial []).ay rfl (by simp[upd,ins,aw,ae])
   ·intro j2 _
    rw[List.take_length]
    generalize (decide (n≠0)&&X.any fun x=>decide (tg x h=n))=B at *
    cases B
    ·rw[if_neg (by decide),List.append_nil] at ih
     simp -implicitDefEqProofs (maxSteps:=9^9) (disch:=omega) only[go_sem,simprocAttr,hwk]
     exact(ih trivial []).ay (by simp) (by simp[upd,ins,aw,ae])
    ·rw[if_pos rfl] at ih
     simp -implicitDefEqProofs (maxSteps:=9^9) (disch:=omega) only[go_sem,simprocAttr,hwk]
     exact(ih trivial []).ay (by simp) (by simp[upd,ins,aw,ae])
  ·intro j _
   have hle:(r.mn+(((r.mx-r.mn+1).toNat:Nat):Int)≤r.mx)=False:=eq_false (by omega)
   generalize dx r X h (r.mx-r.mn+1).toNat=R
   by_cases c:R=[]
   ·subst c
    rw[if_pos rfl]
    simp -implicitDefEqProofs (maxSteps:=9^9) (disch:=omega) only[go_sem,simprocAttr,hle,ar,List.map_nil]
   ·have hz:((R.length:Int)=0)=False:=eq_false (by have:=List.length_pos_iff.2 c;omega)
    rw[if_neg c]
    have hml:(R.map (AV.int .i64)).length=R.length:=by simp
    simp -implicitDefEqProofs (maxSteps:=9^9) (disch:=omega) only[go_sem,simprocAttr,hle,ar,hz,hml]
 ·have hkh:aC r [aM r.hands h]=gJ r h:=by
   unfold aC gJ
   by_cases c:bP r=0
   ·have c2:aM r.hands h≠0:=fun g=>h1 (by unfold gJ;rw[if_neg (fun q=>q c)];exact g)
    simp[c,bn,c2]
   ·simp[c]
  have hrE:bT r h=gJ r h:=by unfold bT;rw[hkh,if_pos h1]
  have hrU:dE r h=[]:=by unfold dE;rw[hrE,if_neg h1]
  rw[hrU,hrE]
  refine PvE (Tryz.ah (S:=S) 65 (fun _=>([],[])) ic fq) (.tup (by simp only[List.mem_cons,List.not_mem_nil,or_false,forall_eq_or_imp,forall_eq];exact⟨(cA _).2,.int⟩)) Tryz.Jm Tryz.func55 rfl ?_
  intro σ
  generalize gJ r h=q at *
  have h1':(q=0)=False:=eq_false h1
  simp only[Ros.av] at hch⊢
  simp -implicitDefEqProofs (maxSteps:=9^9) (disch:=omega) only[go_sem,simprocAttr]
  refine hch _ _ ?_
  simp -implicitDefEqProofs (maxSteps:=9^9) (disch:=omega) only[go_sem,simprocAttr,h1',ar,List.map_nil]
end Go.Proofs
namespace Go.Proofs
open Go Go.Mu Go.Ins
def mM(r:Ros)(ds X:List (List Int))(e:Nat):Nat:=bitsOf (fun h=>decide ((h:Int)<r.hands)&&X.any fun x=>byB r ds x e h) 4
def oD(r:Ros)(ds X:List (List Int))(x:List Int)(e n:Nat):Nat:=bitsOf (fun h=>decide ((h:Int)<r.hands)&&((X.any fun x=>byB r ds x e h)||(decide (h<n)&&byB r ds x e h))) 4
theorem oH{p q:Nat→Bool}{n:Nat}(h:∀i,i<n→p i=q i):bitsOf p n=bitsOf q n:=by
 apply Nat.eq_of_testBit_eq
 intro i
 rw[dM,dM]
 by_cases hi:i<n
 ·rw[h i hi]
 ·simp[hi]
theorem Hm{r:Ros}{ds X:List (List Int)}{x:List Int}{e:Nat}:oD r ds X x e 0=mM r ds X e:=oH fun i hi=>by simp
theorem Le{r:Ros}{ds X:List (List Int)}{x:List Int}{e:Nat}:oD r ds X x e r.hands.toNat=mM r ds (X++[x]) e:=oH fun i hi=>by
 rw[List.any_append]
 by_cases h:(i:Int)<r.hands
 ·have:decide (i<r.hands.toNat)=true:=decide_eq_true (by omega)
  rw[this,decide_eq_true h];simp
 ·simp[h]
theorem G4{r:Ros}{ds X:List (List Int)}{x:List Int}{e n:Nat}(hn:(n:Int)<r.hands)(h4:n<4):oD r ds X x e (n+1)=if byB r ds x e n then oD r ds X x e n|||2^n else oD r ds X x e n:=by
 apply Nat.eq_of_testBit_eq
 intro i
 unfold oD
 rw[dM]
 split
 ·rename_i hb
  rw[Nat.testBit_or,dM,Nat.testBit_two_pow]
  by_cases hi:n=i
  ·subst hi;simp[hb,hn,h4]
  ·have:decide (i<n+1)=decide (i<n):=by
    by_cases h:i<n
    ·rw[decide_eq_true h,decide_eq_true (by omega)]
    ·rw[decide_eq_false h,decide_eq_false (by omega)]
   rw[this];simp[hi]
 ·rename_i hb
  rw[dM]
  by_cases hi:n=i
  ·subst hi;simp[hb]
  ·have:decide (i<n+1)=decide (i<n):=by
    by_cases h:i<n
    ·rw[decide_eq_true h,decide_eq_true (by omega)]
    ·rw[decide_eq_false h,decide_eq_false (by omega)]
   rw[this]
theorem Ou{r:Ros}{ds X:List (List Int)}{x:List Int}{e n:Nat}:oD r ds X x e n<16:=gD _ 4
def mA(r:Ros)(e:Int):Int:=if 0≤e∧e≤(r.ents.length:Int)-1 then 0 else 3
def gq(r:Ros)(e:Int):Int:=aC r [mA r e]
def iQ(r:Ros)(e:Int):List Int:=if gq r e=0 then df (mM r (aq r) (aE r (aq r)) e.toNat) else[]
theorem Hu{r:Ros}{ds X Y:List (List Int)}{e:Nat}(h:X.Perm Y):mM r ds X e=mM r ds Y e:=oH fun i hi=>by rw[h.any_eq]
theorem KX(r:Ros)(hf:r.Fit)(e:Int):al aV 56 [r.av,.int .i64 e] (.tup [ar (iQ r e),.int .i64 (gq r e)]):=by
 refine PvE (Tryz.ah (S:=aV) 53 (fun _=>([],[])) dk cx) ((.tup (by simp;exact⟨Plain.ints,.int⟩))) Tryz.QF Tryz.func56 rfl ?_
 intro σ
 have hel:=hf.ents
 simp only[Ros.av]
 have hw:IntKind.i64.wrap ((r.ents.length:Int)-1)=(r.ents.length:Int)-1:=wrap64 (by omega) (by omega)
 by_cases he:0≤e∧e≤(r.ents.length:Int)-1
 ·have hE:mA r e=0:=if_pos he
  have he':decide (0≤e∧e≤(r.ents.length:Int)-1)=true:=decide_eq_true he
  unfold iQ gq
  rw[hE]
  simp -implicitDefEqProofs (maxSteps:=9^9) (disch:=omega) only[go_sem,simprocAttr,hw,he']
  refine ao.weaken (l':=[r.av,.list .no 1 (([0]:List Int).map (.int .i64))]) ⟨⟨rfl,rfl,rfl,rfl,⟨rfl,.inl rfl,.inl rfl⟩,⟨rfl,.inl rfl,.inl rfl⟩,trivial⟩,⟨rfl,.inl rfl,.inl rfl⟩,trivial⟩ ?_
  refine gm r hf [0] (by simp) (fun hK j=>?_) (fun hO hg a j ha hm=>?_)
  ·have hK':(aC r [0]=0)=False:=eq_false hK
   rw[if_neg hK]
   simp -implicitDefEqProofs (maxSteps:=9^9) (disch:=omega) only[go_sem,simprocAttr,hK',oo]
   exact⟨rfl,.inr rfl,.inl rfl⟩
  rw[if_pos hO,hO]
  have hh4:=hg.hands
  have hlen:=gH hg.toHead (ds:=aq r)
  have hokL:=gT hg
  have hWk:=hg.work
  have hnn:((e.toNat:Nat):Int)=e:=by omega
  have hby:=fun(x:List Int) (hx:OkX r x) (h:Nat) (hh:(h:Int)<r.hands)=>Sa (S:=aV) r hg.toHead (aq r) hWk.dev hWk.len hWk.day x hx e.toNat (by omega) h ⟨by omega,by omega⟩
  simp only[hnn] at hby
  have hwav:r.wav (aq r)= .agg (r.az (aq r)):=rfl
  simp only[Ros.wav]
  have hm1:ai (σ++aa.cells [.int .i64 r.hands,.int .i64 r.skill,.int .i64 r.mn,.int .i64 r.mx,.list .no 2 (r.sets.map Sg.av),.list .no 6 (r.ents.map Tn.av)]::(j++[aa.cells [AV.int .i64 r.hands,.int .i64 r.skill,.int .i64 r.mn,.int .i64 r.mx,.list .no 2 (r.sets.map Sg.av),.list .no 6 (r.ents.map Tn.av),.list .no 1 ((aq r).map ar)]])) a=some (.map (bh (aE r (aq r)))):=by
   have:=fD (l:=[aa.cells (r.az (aq r))]) hm;simpa[Ros.az] using this
  generalize aE r (aq r)=L at *
  have hml:(bh L).length=L.length:=by simp[bh]
  simp -implicitDefEqProofs (maxSteps:=9^9) (disch:=omega) only[go_sem,simprocAttr,hm1,hml]
  obtain⟨J,hJ⟩:∃J,aa.cells [.int .i64 r.hands,.int .i64 r.skill,.int .i64 r.mn,.int .i64 r.mx,.list .no 2 (r.sets.map Sg.av),.list .no 6 (r.ents.map Tn.av)]::(j++[aa.cells [AV.int .i64 r.hands,.int .i64 r.skill,.int .i64 r.mn,.int .i64 r.mx,.list .no 2 (r.sets.map Sg.av),.list .no 6 (r.ents.map Tn.av),.list .no 1 ((aq r).map ar)]])=J:=⟨_,rfl⟩
  obtain⟨σ1,hσ1⟩:∃σ1,σ1=σ++J:=⟨_,rfl⟩
  have e1:∀it,σ++aa.cells [.int .i64 r.hands,.int .i64 r.skill,.int .i64 r.mn,.int .i64 r.mx,.list .no 2 (r.sets.map Sg.av),.list .no 6 (r.ents.map Tn.av)]::(j++[aa.cells [AV.int .i64 r.hands,.int .i64 r.skill,.int .i64 r.mn,.int .i64 r.mx,.list .no 2 (r.sets.map Sg.av),.list .no 6 (r.ents.map Tn.av),.list .no 1 ((aq r).map ar)],it])=σ1++[it]:=fun it=>by rw[hσ1,← hJ];simp
  have e2:σ.length+(j.length+1+1)=σ1.length:=by rw[hσ1,← hJ];simp
  rw[e1,e2]
  rw[hJ,← hσ1] at hm1
  have hσf:∀l,∃junk,σ1++l=σ++junk:=fun l=>⟨J++l,by rw[hσ1,List.append_assoc]⟩
  have hσl:σ.length≤σ1.length:=by rw[hσ1];simp
  have hr2:∀l,ai (σ1++l) σ.length=some (.cells [.int .i64 r.hands,.int .i64 r.skill,.int .i64 r.mn,.int .i64 r.mx,.list .no 2 (r.sets.map Sg.av),.list .no 6 (r.ents.map Tn.av)]):=fun l=>by rw[hσ1,← hJ,List.append_assoc];exact a8
  have hr3:∀l,ai (σ1++l) (σ.length+(j.length+1))=some (.cells (r.az (aq r))):=fun l=>by rw[hσ1,← hJ,List.append_assoc,aZ];simp[Ros.az]
  simp only[Ros.az] at hr3
  clear e1 e2 hJ hm ha hσ1
  have hm2:∀l,ai (σ1++l) a=some (.map (bh L)):=fun l=>fD hm1
  generalize σ.length+(j.length+1)=wp at hr3⊢
  generalize aq r=ds at *
  refine aj.eL (Tryz.ah (S:=aV) 53 (fun _=>([],[])) dk cx) (α:=List Nat) (fun a=>L.length-a.length) (fun seen τ=>(∃j,τ=σ1++(.iter (some a) L.length seen::j))∧seen.Nodup∧∀i∈seen,i<L.length) (fun seen=>[(10,.int .u64 (mM r ds (seen.map fun i=>L.getD i []) e.toNat))]) [] (by kernel_rfl) (by simp[upd,ins,aw,ae,mM,bitsOf]) ⟨⟨[],by simp⟩,by simp,by simp⟩ ?_
  rintro seen τ ⟨⟨j,rfl⟩,hnd',hlt⟩ ih
  have hsl:=eE hnd' hlt
  simp -implicitDefEqProofs (maxSteps:=9^9) (disch:=omega) only[go_sem,simprocAttr]
  refine fy (q:=a) (c:=L.length) (seen:=seen) (es:=bh L) (by rw[a8];rfl) (hm2 _) hml.symm (fun i2 k v hi2 hns=>?_) (fun hall=>?_)
  ·obtain⟨x,hx,hkv⟩:∃x,L[i2]? = some x∧(rtv x,AV.bool true)=(k,v):=by simpa[bh] using hi2
   simp only[Prod.mk.injEq] at hkv
   obtain⟨rfl,rfl⟩:=hkv
   have hil:=(List.getElem?_eq_some_iff.1 hx).1
   have hxm:x∈L:=List.mem_of_getElem? hx
   have hok:=hokL x hxm
   have hgd:L.getD i2 []=x:=by rw[List.getD_eq_getElem?_getD,hx];rfl
   have hgl:(seen++[i2]).getLast? = some i2:=by simp
   have hnd2:(seen++[i2]).Nodup:=by
    rw[List.nodup_append]
    exact⟨hnd',by simp,fun a ha b hb e=>by simp at hb;subst hb;exact hns (e▸ha)⟩
   have hlt2:∀i∈seen++[i2],i<L.length:=fun i hi=>by
    rcases List.mem_append.1 hi with hi | hi
    ·exact hlt i hi
    ·simp at hi;omega
   have hsl2:=eE hnd2 hlt2
   rw[List.length_append,List.length_singleton] at hsl2
   have ih2:=ih (seen++[i2])
   have hmm:(seen++[i2]).map (fun i=>L.getD i [])=seen.map (fun i=>L.getD i [])++[x]:=by rw[List.map_append];simp only[List.map_cons,List.map_nil,hgd]
   rw[hmm,← Le] at ih2
   rw[← Hm (x:=x)]
   generalize (seen.map fun i=>L.getD i [])=X at ih2⊢
   have hxl:=hok.len
   have hbx:=hby x hok
   obtain⟨b,c,e2,f,hxe⟩:=mF hok.len
   have hi3:(bh L)[i2]? = some (.agg [.int .i64 b,.int .i64 c,.int .i64 e2,.int .i64 f],.bool true):=by rw[hi2,hxe];rfl
   have hxx:[AV.int .i64 b,.int .i64 c,.int .i64 e2,.int .i64 f]=x.map (AV.int .i64):=by rw[hxe];rfl
   rw[hxx] at hi3
   have hput:putAt 0 (x.map (AV.int .i64)) [.int .i64 0,.int .i64 0,.int .i64 0,.int .i64 0]=x.map (AV.int .i64):=by rw[hxe];rfl
   simp -implicitDefEqProofs (maxSteps:=9^9) (disch:=omega) only[go_sem,simprocAttr,hm2,hgl,hi3,hml,hput,hr2,hr3]
   have e1:∀q,σ1++aa.iter (some a) L.length (seen++[i2])::(j++q)=(σ1++aa.iter (some a) L.length (seen++[i2])::j)++q:=fun q=>by simp
   refine aj.bE (Tryz.ah (S:=aV) 53 (fun _=>([],[])) dk cx) r.hands.toNat (fun _=>True) (fun n=>[(10,.int .u64 (oD r ds X x e.toNat n)),(39,.int .i64 n)]) (fun _ _=>σ1++aa.iter (some a) L.length (seen++[i2])::(j++[.cells (x.map (.int .i64))])) [] (by kernel_rfl) rfl (by simp[upd,ins,aw,ae]) trivial ?_ ?_
   ·intro n jn hn _ ihn
    have hbn:=hbx n (by omega)
    have hnl:((n:Int)<r.hands)=True:=eq_true (by omega)
    have hwn:IntKind.i64.wrap ((n:Int)+1)=((n+1:Nat):Int):=by rw[wrap64 (by omega) (by omega)];rfl
    have hlt3:=@Ou r ds X x e.toNat n
    rw[G4 (by omega) (by omega)] at ihn
    generalize oD r ds X x e.toNat n=B at hlt3 ihn⊢
    rw[hwav] at hbn
    simp only[Ros.az,rtv] at hbn
    simp -implicitDefEqProofs (maxSteps:=9^9) (disch:=omega) only[go_sem,simprocAttr,hnl,hr2,hr3]
    refine hbn _ _ ?_
    cases hb:byB r ds x e.toNat n
    ·rw[hb] at ihn
     simp -implicitDefEqProofs (maxSteps:=9^9) (disch:=omega) only[go_sem,simprocAttr,hnl,hwn]
     exact(ihn trivial []).ay rfl (by simp[upd,ins,aw,ae])
    ·rw[hb] at ihn
     simp -implicitDefEqProofs (maxSteps:=9^9) (disch:=omega) only[go_sem,simprocAttr,hnl,hwn]
     exact(ihn trivial []).ay rfl (by simp[upd,ins,aw,ae])
   ·intro jn _
    have hnl:(((r.hands.toNat:Nat):Int)<r.hands)=False:=eq_false (by omega)
    simp -implicitDefEqProofs (maxSteps:=9^9) (disch:=omega) only[go_sem,simprocAttr,hnl,hr2,hr3]
    exact(ih2 _ (by rw[List.length_append,List.length_singleton];omega) ⟨⟨j++[.cells (x.map (.int .i64))],rfl⟩,hnd2,hlt2⟩).ay rfl (by simp[upd,ins,aw,ae])
  ·have hall':∀i,i<L.length→i∈seen:=fun i hi=>hall i (by rw[hml];exact hi)
   have hps:=kA ([]:List Int) hnd' hlt hall'
   rw[Hu hps]
   simp -implicitDefEqProofs (maxSteps:=9^9) (disch:=omega) only[go_sem,simprocAttr]
   refine FC _ (gD _ 4) _ _ ?_
   simp -implicitDefEqProofs (maxSteps:=9^9) (disch:=omega) only[go_sem,simprocAttr,ar]
   exact⟨hσf _,⟨rfl,.inl rfl,.inl rfl⟩,rfl,trivial⟩
 ·have hE:mA r e=3:=if_neg he
  have he':decide (0≤e∧e≤(r.ents.length:Int)-1)=false:=decide_eq_false he
  unfold iQ gq
  rw[hE]
  simp -implicitDefEqProofs (maxSteps:=9^9) (disch:=omega) only[go_sem,simprocAttr,hw,he']
  refine ao.weaken (l':=[r.av,.list .no 1 (([3]:List Int).map (.int .i64))]) ⟨⟨rfl,rfl,rfl,rfl,⟨rfl,.inl rfl,.inl rfl⟩,⟨rfl,.inl rfl,.inl rfl⟩,trivial⟩,⟨rfl,.inl rfl,.inl rfl⟩,trivial⟩ ?_
  refine gm r hf [3] (by simp) (fun hK j=>?_) (fun hO hg a j ha hm=>?_)
  ·have hK':(aC r [3]=0)=False:=eq_false hK
   rw[if_neg hK]
   simp -implicitDefEqProofs (maxSteps:=9^9) (disch:=omega) only[go_sem,simprocAttr,hK',oo]
   exact⟨rfl,.inr rfl,.inl rfl⟩
  ·exact absurd (nG hO 3 (by simp)) (by decide)
end Go.Proofs
