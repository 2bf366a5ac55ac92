/- Insertion sort, plain: an element sinks into the part that is in order. -/
import Derived.Test.YtgbdndlmdklefaaGreatHK28
import Derived.Test.YtgbdndlmdklefaaGreatHK29
set_option linter.unusedSimpArgs false
set_option linter.unusedVariables false
set_option maxRecDepth 100000
set_option maxHeartbeats 40000000
namespace Go.Proofs
open Go Go.Mu
variable {S:MC Tryz.prog}
theorem rM{r:Ros}(hr:r.Head)(s:Nat):∀(m:Nat) (x:List Int) (a:Nat),x.length=4→a+m≤4→(∀n∈x, -5≤n∧n≤5)→(∀i:Nat,a≤i→tg x i=0)→
  ∀u∈dW r s m x a,u.length=4∧(∀n∈u, -5≤n∧n≤5)∧(∀i:Nat,i<a→tg u i=tg x i)∧(∀i:Nat,a≤i→i<a+m→(tg u i≠0↔s.testBit i=true))∧(∀i:Nat,a+m≤i→tg u i=0)
 | 0,x,a,h1,h2,h3,h4,u,hu=>by
  simp only[dW,List.mem_singleton] at hu
  subst hu
  exact⟨h1,h3,fun _ _=>rfl,fun i h5 h6=>by omega,fun i hi=>h4 i (by omega)⟩
 | m+1,x,a,h1,h2,h3,h4,u,hu=>by
  have hb:=hr.mn
  have htg:∀(n:Int) (i:Nat),tg (bG x a n) i=if i=a then n else tg x i:=fun n i=>by
   unfold tg bG
   simp only[Int.toNat_natCast,List.getD_eq_getElem?_getD,List.getElem?_set]
   by_cases e:a=i
   ·subst e;simp[show a<x.length by omega]
   ·rw[if_neg e,if_neg (fun h=>e h.symm)]
  simp only[dW] at hu
  split at hu
  ·rename_i hs
   rw[List.mem_flatMap] at hu
   obtain⟨k,hk,hu⟩:=hu
   rw[List.mem_range] at hk
   split at hu
   ·simp at hu
   rename_i hne
   obtain⟨g1,g2,g3,g4,g5⟩:=rM hr s m (bG x a (r.mn+k)) (a+1) (by simp[bG,h1]) (by omega) (fun n hn=>by
    rcases List.mem_or_eq_of_mem_set hn with hn | rfl
    ·exact h3 n hn
    ·omega) (fun i hi=>by rw[htg,if_neg (by omega)];exact h4 i (by omega)) u hu
   refine⟨g1,g2,fun i hi=>by rw[g3 i (by omega),htg,if_neg (by omega)],fun i h5 h6=>?_,fun i hi=>g5 i (by omega)⟩
   by_cases e:i=a
   ·subst e
    rw[g3 i (by omega),htg,if_pos rfl]
    exact⟨fun _=>hs,fun _=>hne⟩
   ·exact g4 i (by omega) (by omega)
  ·rename_i hs
   obtain⟨g1,g2,g3,g4,g5⟩:=rM hr s m x (a+1) h1 (by omega) h3 (fun i hi=>h4 i (by omega)) u hu
   refine⟨g1,g2,fun i hi=>g3 i (by omega),fun i h5 h6=>?_,fun i hi=>g5 i (by omega)⟩
   by_cases e:i=a
   ·subst e
    rw[g3 i (by omega),h4 i (Nat.le_refl _)]
    simp[hs]
   ·exact g4 i (by omega) (by omega)
theorem uq{f:Nat→List (List Int)}{B:Nat}(hf:∀k,(f k).length≤B):∀n,((List.range n).flatMap f).length≤n*B
 | 0=>by simp
 | n+1=>by
  rw[gE,List.length_append,Nat.succ_mul]
  have:=uq hf n
  have:=hf n
  omega
theorem rE{r:Ros}(hr:r.Head)(s:Nat):∀(m:Nat) (x:List Int) (a:Nat),(dW r s m x a).length≤11^m
 | 0,x,a=>by simp[dW]
 | m+1,x,a=>by
  have hb:=hr.mn
  have h1:1≤11^m:=Nat.one_le_pow _ _ (by omega)
  simp only[dW]
  split
  ·refine Nat.le_trans (uq (B:=11^m) (fun k=>?_) _) ?_
   ·split
    ·simp
    ·exact rE hr s m _ _
   ·rw[Nat.pow_succ,Nat.mul_comm]
    exact Nat.mul_le_mul_left _ (by omega)
  ·have:=rE hr s m x (a+1)
   rw[Nat.pow_succ];omega
def gR(r:Ros)(s:Nat):List (List Int):=dW r s r.hands.toNat [0,0,0,0] 0
theorem oJ{r:Ros}(hr:r.Head){s:Nat}{u:List Int}(hu:u∈gR r s):u.length=4∧(∀n∈u, -5≤n∧n≤5)∧(∀i:Nat,i<r.hands.toNat→(tg u i≠0↔s.testBit i=true))∧(∀i:Nat,r.hands.toNat≤i→tg u i=0):=by
 have hh:=hr.hands
 obtain⟨g1,g2,_,g4,g5⟩:=rM hr s r.hands.toNat [0,0,0,0] 0 rfl (by omega) (by intro n hn;simp at hn;omega) (fun i _=>by
  match i with
  | 0=>rfl
  | 1=>rfl
  | 2=>rfl
  | 3=>rfl
  | i+4=>unfold tg;rw[Int.toNat_natCast];rfl) u hu
 exact⟨g1,g2,fun i hi=>g4 i (by omega) (by omega),fun i hi=>g5 i (by omega)⟩
theorem vR{r:Ros}(hr:r.Head){s:Nat}{u:List Int}(hu:u∈gR r s):OkX r u:=⟨(oJ hr hu).1,(oJ hr hu).2.1⟩
theorem tJ{r:Ros}(hr:r.Head)(s:Nat):(gR r s).length≤14641:=by
 have hh:=hr.hands
 refine Nat.le_trans (rE hr s _ _ _) ?_
 have:11^r.hands.toNat≤11^4:=Nat.pow_le_pow_right (by omega) (by omega)
 exact Nat.le_trans this (by decide)
theorem Ob:∀{a b:List (List Int)},a.map rtv=b.map rtv→a=b:=by
 have h1:∀{x y:List Int},x.map (AV.int .i64)=y.map (AV.int .i64)→x=y:=by
  intro x
  induction x with
  | nil=>intro y h;cases y with | nil=>rfl | cons _ _=>simp at h
  | cons a x ih=>
   intro y h
   cases y with
   | nil=>simp at h
   | cons b y=>
    simp only[List.map_cons,List.cons.injEq,AV.int.injEq,true_and] at h
    rw[h.1,ih h.2]
 intro a
 induction a with
 | nil=>intro b h;cases b with | nil=>rfl | cons _ _=>simp at h
 | cons x a ih=>
  intro b h
  cases b with
  | nil=>simp at h
  | cons y b=>
   simp only[List.map_cons,List.cons.injEq,rtv,AV.agg.injEq] at h
   rw[h1 h.1,ih h.2]
theorem OG(r:Ros)(ds:List (List Int))(hr:r.Head)(s:Nat)(hs:s<16){q rr rs:Nat}{L:List AV}(T:kR S q L){τ:List aa}(h1:ai τ rr=some (.cells (r.az ds)))(h2:ai τ rs=some (.cells [.int .u64 s]))(hm:¬T.M rr∧¬T.M rs)(hC:T.C [] τ)(hL:L=(gR r s).map rtv) :
  ao S 199 [.yield q,.ptr rr 0,.ptr rs 0] τ fun _ τ'=>bZ T.M τ τ'∧(T.C L τ'∨∃D v R,L=D++v::R∧T.St (D++[v]) τ'):=by
 subst hL
 refine AcE (Tryz.ah (S:=S) 9 (fun _=>([],[])) cq bm) Tryz.MR Tryz.func199 rfl ?_
 simp -implicitDefEqProofs (maxSteps:=9^9) (disch:=omega) only[go_sem,simprocAttr]
 have hlt:∀q,T.M q→q<τ.length:=fun q hq=>T.lt hC hq
 have hb1:=aN h1
 have hb2:=aN h2
 have hh:=hr.hands
 refine(PO r ds hr s hs r.hands.toNat [0,0,0,0] 0 rfl (by omega) T (rr:=rr) (ry:=τ.length) (rs:=rs) (rn:=τ.length+1) [] [] ⟨by rw[aB hb1];exact h1,a8,by rw[aB hb2];exact h2,aZ,hm.1,fun h=>by have:=hlt _ h;omega,hm.2,fun h=>by have:=hlt _ h;omega⟩ (T.keep hC (gh.app hlt)) (by simp[gR])).mono fun v τ' hv=>?_
 simp -implicitDefEqProofs (maxSteps:=9^9) (disch:=omega) only[go_sem,simprocAttr]
 refine⟨bZ.app.trans hv.1,?_⟩
 rcases hv with⟨_,⟨_,g⟩ | ⟨_,D,v',R,g1,g2⟩⟩
 ·left;simpa[gR] using g
 ·right;exact⟨D,v',R,g1,g2⟩
theorem QU(r:Ros)(ds:List (List Int))(hr:r.Head)(s:Nat)(hs:s<16)(σ:List aa)(Q:AV→List aa→Prop)(h:MF S 199 [] [.ptr σ.length 0,.ptr (σ.length+1) 0] (fun k=>k=σ.length∨k=σ.length+1) (σ++[.cells (r.az ds),.cells [.int .u64 s]]) ((gR r s).map rtv)→Q (.fn (.func 199) [] [.ptr σ.length 0,.ptr (σ.length+1) 0]) (σ++[.cells (r.az ds),.cells [.int .u64 s]])) :
  ao S 150 [r.wav ds,.int .u64 s] σ Q:=by
 refine AcE (Tryz.ah (S:=S) 6 (fun _=>([],[])) cq bm) Tryz.M7 Tryz.func150 rfl ?_
 simp only[Ros.wav]
 simp -implicitDefEqProofs (maxSteps:=9^9) (disch:=omega) only[go_sem,simprocAttr]
 refine h fun q T σ' hk hC=>?_
 have:=OG (S:=S) r ds hr s hs T (rr:=σ.length) (rs:=σ.length+1) (τ:=σ') (by rw[(hk _ (.inl rfl)).1];exact a8) (by rw[(hk _ (.inr rfl)).1];exact aZ) ⟨(hk _ (.inl rfl)).2,(hk _ (.inr rfl)).2⟩ hC rfl
 simpa using this
theorem Ez(l:List (List Int)):Plain (.list .no 4 (l.map rtv)):= .map fun y _=>Hi y
theorem IP(r:Ros)(ds:List (List Int))(hr:Cu r ds)(s:Nat)(hs:s<16):al S 107 [r.wav ds,.int .u64 s] (.list .no 4 ((dw r ds s).map rtv)):=by
 refine PvE (Tryz.ah (S:=S) 19 (fun _=>([],[])) cq bm) (Ez _) Tryz.ED Tryz.func107 rfl ?_
 intro σ
 have hav:r.wav ds= .agg (r.az ds):=rfl
 simp only[Ros.wav]
 simp -implicitDefEqProofs (maxSteps:=9^9) (disch:=omega) only[go_sem,simprocAttr]
 refine QU r ds hr.toHead s hs _ _ fun hI=>?_
 simp only[List.append_assoc,List.cons_append,List.nil_append,List.length_append,List.length_cons,List.length_nil,Nat.zero_add,Nat.reduceAdd,Nat.add_assoc] at hI⊢
 simp -implicitDefEqProofs (maxSteps:=9^9) (disch:=omega) only[go_sem,simprocAttr]
 refine aj.zK (σ.length+1) 4 (sz0:=0) (by simp[aZ]) ?_
 simp only[fI,List.set_cons_succ,List.set_cons_zero,List.append_assoc,List.cons_append,List.nil_append,List.length_append,List.length_cons,List.length_nil,Nat.zero_add,Nat.reduceAdd]
 have hml:=tJ hr.toHead s
 refine aj.CQ (g:=199) (p:=[]) (L:=(gR r s).map rtv) (by simp[aH,Fr.get,ae,Tryz.ED]) hI (fun k hk=>⟨?_,by simp;omega⟩) ⟨10,rfl,by simp[Tryz.EN]⟩
  (fun k=>k=σ.length∨k=σ.length+1∨k=σ.length+4) (fun k hk=>⟨by omega,by simp;omega⟩) (fun D τ=>∃Ds,D=Ds.map rtv∧Ds.length≤14641∧ai τ σ.length=some (.cells (r.az ds))∧ai τ (σ.length+1)=some (.cells [.list (.own (σ.length+4)) 4 ((Ds.filter (isB r ds)).map rtv)])∧ai τ (σ.length+4)=some (.tail (Ds.filter (isB r ds)).length 4)) (fun _ _=>False)
  ⟨[],rfl,by simp,by simp[a8,Ros.az],by simp[aZ],by simp[aZ]⟩ (fun{D τ τ'} hc hk=>by obtain⟨Ds,e,hl,e1,e2,e3⟩:=hc;exact⟨Ds,e,hl,by rw[hk _ (.inl rfl)];exact e1,by rw[hk _ (.inr (.inl rfl))];exact e2,by rw[hk _ (.inr (.inr rfl))];exact e3⟩) (fun{j τ τ'} hc _=>hc) ?_ ?_ (fun τ j _ _ hc=>hc.elim)
 ·rcases hk with rfl | rfl<;> simp[aZ,Ros.az]
 ·rintro D v R fn τ hD ⟨Ds,rfl,hDl,c1,c2,c3⟩ hlt hrec
  simp only[List.length_append,List.length_cons,List.length_nil,Nat.zero_add,Nat.reduceAdd] at hrec hlt⊢
  obtain⟨m,hm,rfl⟩:∃m∈gR r s,rtv m=v:=List.mem_map.1 (by rw[hD];simp)
  have hDn:(Ds++[m]).length≤14641:=by have:=congrArg List.length hD;simp at this⊢;omega
  have hok:=vR hr.toHead hm
  have hfe:(Ds++[m]).filter (isB r ds)=Ds.filter (isB r ds)++if isB r ds m then[m] else[]:=by
   rw[List.filter_append];cases h:isB r ds m<;> simp[h]
  have hfl:(Ds.filter (isB r ds)).length≤14641:=Nat.le_trans (List.length_filter_le _ _) hDl
  generalize Ds.filter (isB r ds)=Fs at c2 c3 hfe hfl
  obtain⟨a,b,c,d,rfl⟩:∃a b c d,m=[a,b,c,d]:=by
   match m,hok.len with
   | [a,b,c,d],_=>exact⟨a,b,c,d,rfl⟩
  refine aR (Tryz.ah (S:=S) 19 (fun _=>([],[])) cq bm) (n:=1000) (by kernel_rfl) ?_
  have hma:rtv [a,b,c,d]= .agg [.int .i64 a,.int .i64 b,.int .i64 c,.int .i64 d]:=rfl
  simp -implicitDefEqProofs (maxSteps:=9^9) (disch:=omega) only[go_sem,simprocAttr,sB,hma]
  refine aj.qU (by rw[aB hlt];exact hrec) fun τ2 hl2 hs2 hr2=>?_
  rw[List.length_append,List.length_singleton] at hl2
  have k1:ai τ2 σ.length=some (.cells (r.az ds)):=by rw[hs2 _ (by omega),aB (by omega)];exact c1
  have k2:ai τ2 (σ.length+1)=some (.cells [.list (.own (σ.length+4)) 4 (Fs.map rtv)]):=by rw[hs2 _ (by omega),aB (by omega)];exact c2
  have k3:ai τ2 (σ.length+4)=some (.tail Fs.length 4):=by rw[hs2 _ (by omega),aB (by omega)];exact c3
  have k4:ai τ2 τ.length=some (.cells [.int .i64 a,.int .i64 b,.int .i64 c,.int .i64 d]):=by rw[hs2 _ (by omega)];exact a8
  refine aR (Tryz.ah (S:=S) 19 (fun _=>([],[])) cq bm) (n:=1000) (by kernel_rfl) ?_
  have k5:∀x,ai (ax τ2 (σ.length+4) x) (σ.length+1)=some (.cells [.list (.own (σ.length+4)) 4 (Fs.map rtv)]):=fun x=>by rw[bt (by omega)];exact k2
  have hlen2:Ds.map rtv++[rtv [a,b,c,d]]=(Ds++[[a,b,c,d]]).map rtv:=by simp
  rw[hma] at hlen2
  have hsm:∀q,q<τ.length→q≠σ.length+5→ai τ2 q=ai τ q:=fun q hq hm=>by rw[hs2 _ hm,aB hq]
  simp -implicitDefEqProofs (maxSteps:=9^9) (disch:=omega) only[go_sem,simprocAttr,k1,k2,k3,k4,Ros.az]
  refine VB r ds hr [a,b,c,d] hok _ _ ?_
  cases hb:isB r ds [a,b,c,d]
  ·rw[hb] at hfe
   simp -implicitDefEqProofs (maxSteps:=9^9) (disch:=omega) only[go_sem,simprocAttr,k1,k2,k3,k4,Ros.az]
   exact⟨⟨by omega,fun q hq hm=>hsm q hq (by omega)⟩,⟨none,hr2⟩,.inl ⟨Ds++[[a,b,c,d]],hlen2,hDn,by rw[hfe];simp,by rw[hfe];simp⟩⟩
  ·rw[hb] at hfe
   simp -implicitDefEqProofs (maxSteps:=9^9) (disch:=omega) only[go_sem,simprocAttr,k1,k2,k3,k4,k5,Ros.az]
   refine⟨⟨by simp only[aJ];omega,fun q hq hm=>?_⟩,⟨none,?_⟩,.inl ⟨Ds++[[a,b,c,d]],hlen2,hDn,?_,?_,?_⟩⟩
   ·rw[bt (by omega),bt (by omega)];exact hsm q hq (by omega)
   ·rw[bt (by omega),bt (by omega)];exact hr2
   ·rw[bt (by omega),bt (by omega)];exact k1
   ·rw[hfe,cN (k5 _)];simp[hma]
   ·rw[hfe,bt (by omega),cN k3];simp
 ·rintro τ hlt hold ⟨Ds,e,hl,c1,c2,c3⟩
  have he:Ds=gR r s:=Ob e.symm
  refine aR (Tryz.ah (S:=S) 19 (fun _=>([],[])) cq bm) (n:=1000) (by kernel_rfl) ?_
  simp -implicitDefEqProofs (maxSteps:=9^9) (disch:=omega) only[go_sem,simprocAttr,c2]
  rw[he]
  simp only[List.length_append,List.length_cons,List.length_nil] at hlt hold
  exact oi (by omega) (fun q hq=>by rw[hold q (by omega) (by omega)];exact aB hq) ⟨rfl,.inl rfl,.inl rfl⟩
end Go.Proofs
namespace Go.Ins
variable {α:Type}[Inhabited α]{le:α→α→Prop}
def at_(Z:List α)(i:Nat):α:=Z.getD i default
def swp(Z:List α)(j:Nat):List α:=(Z.set (j+1) (at_ Z j)).set j (at_ Z (j+1))
theorem kn{Z:List α}{i:Nat}(h:i<Z.length):at_ Z i=Z[i]:=by simp[at_,List.getD_eq_getElem?_getD,h]
theorem at_set{Z:List α}{i k:Nat}{x:α}(h:i<Z.length):at_ (Z.set i x) k=if k=i then x else at_ Z k:=by
 unfold at_
 simp only[List.getD_eq_getElem?_getD,List.getElem?_set]
 by_cases e:i=k
 ·subst e;simp[h]
 ·rw[if_neg e,if_neg (fun h=>e h.symm)]
theorem uJ{Z:List α}{j k:Nat}(h:j+1<Z.length):at_ (swp Z j) k=if k=j then at_ Z (j+1) else if k=j+1 then at_ Z j else at_ Z k:=by
 unfold swp
 rw[at_set (by simp;omega),at_set h]
theorem yC{Z:List α}{j:Nat}(h:j+1<Z.length):(swp Z j).Perm Z:=by
 have hs:Z=Z.take j++Z[j]::Z[j+1]::Z.drop (j+2):=by
  rw[← List.drop_eq_getElem_cons h,← List.drop_eq_getElem_cons (by omega),List.take_append_drop]
 have e:swp Z j=Z.take j++Z[j+1]::Z[j]::Z.drop (j+2):=by
  unfold swp
  rw[kn (by omega:j<Z.length),kn h]
  have hl:(Z.take j).length=j:=by simp;omega
  generalize Z[j+1]=x at hs⊢
  generalize Z[j]=y at hs⊢
  conv=>lhs;rw[hs]
  rw[List.set_append_right _ _ (by omega),List.set_append_right _ _ (by omega),hl]
  simp
 rw[e]
 generalize Z[j+1]=x at hs⊢
 generalize Z[j]=y at hs⊢
 conv=>rhs;rw[hs]
 exact(List.Perm.swap _ _ _).append_left _
def iY(le:α→α→Prop)(Z:List α)(i j:Nat):Prop:=∀a b,a<b→b≤i→b≠j→le (at_ Z a) (at_ Z b)
def lB(le:α→α→Prop)(Z:List α)(i:Nat):Prop:=∀a b,a<b→b<i→le (at_ Z a) (at_ Z b)
theorem lB.BY{Z:List α}{i:Nat}(h:lB le Z i):iY le Z i i:=fun a b h1 h2 h3=>h a b h1 (Nat.lt_of_le_of_ne h2 h3)
theorem iY.step{Z:List α}{i j:Nat}(h:iY le Z i (j+1))(hi:i<Z.length)(hj:j+1≤i)(hlt:le (at_ Z (j+1)) (at_ Z j)):iY le (swp Z j) i j:=by
 intro a b h1 h2 h3
 have hl:j+1<Z.length:=by omega
 by_cases e1:b=j+1
 ·subst e1
  rw[uJ hl (k:=j+1),if_neg (by omega),if_pos rfl,uJ hl]
  by_cases e2:a=j
  ·subst e2;rw[if_pos rfl];exact hlt
  ·rw[if_neg e2,if_neg (by omega)];exact h a j (by omega) (by omega) (by omega)
 ·rw[uJ hl (k:=b),if_neg h3,if_neg e1,uJ hl]
  by_cases e2:a=j
  ·subst e2;rw[if_pos rfl];exact h (a+1) b (by omega) h2 e1
  ·rw[if_neg e2]
   by_cases e3:a=j+1
   ·subst e3;rw[if_pos rfl];exact h j b (by omega) h2 e1
   ·rw[if_neg e3];exact h a b h1 h2 e1
theorem iY.done{Z:List α}{i j:Nat}(ht:∀x y z,le x y→le y z→le x z)(h:iY le Z i j)(hj:j=0∨∃k,j=k+1∧le (at_ Z k) (at_ Z j)):lB le Z (i+1):=by
 intro a b h1 h2
 by_cases e:b=j
 ·subst e
  rcases hj with rfl | ⟨k,rfl,hk⟩
  ·omega
  ·by_cases e2:a=k
   ·subst e2;exact hk
   ·exact ht _ _ _ (h a k (by omega) (by omega) (by omega)) hk
 ·exact h a b h1 (by omega) e
theorem lB.one{Z:List α}:lB le Z 1:=fun a b h1 h2=>by omega
theorem lB.pairwise{Z:List α}(h:lB le Z Z.length):Z.Pairwise le:=by
 rw[List.pairwise_iff_getElem]
 intro i j hi hj hij
 have:=h i j hij hj
 rwa [kn hi,kn hj] at this
end Go.Ins
namespace Go.Ins
def cI:List Int→List Int→Int
 | [],[]=>0
 | [],_::_=> -1
 | _::_,[]=>1
 | a::l,b::m=>if a=b then cI l m else if a<b then -1 else 1
def leL(a b:List Int):Prop:=cI a b≤0
instance (a b:List Int):Decidable (leL a b):=by unfold leL;infer_instance
theorem KT:∀(a b:List Int),cI a b= -1∨cI a b=0∨cI a b=1
 | [],[]=>by simp[cI]
 | [],_::_=>by simp[cI]
 | _::_,[]=>by simp[cI]
 | a::l,b::m=>by
  simp only[cI]
  split
  ·exact KT l m
  ·split<;> simp
theorem mj:∀(a b:List Int),cI b a= - cI a b
 | [],[]=>by simp[cI]
 | [],_::_=>by simp[cI]
 | _::_,[]=>by simp[cI]
 | a::l,b::m=>by
  simp only[cI]
  by_cases h:a=b
  ·rw[if_pos h,if_pos h.symm];exact mj l m
  ·rw[if_neg h,if_neg (fun e=>h e.symm)]
   by_cases h2:a<b
   ·rw[if_pos h2,if_neg (by omega)];omega
   ·rw[if_neg h2,if_pos (by omega)]
theorem BJ:∀{a b:List Int},cI a b=0→a=b
 | [],[],_=>rfl
 | [],_::_,h=>by simp[cI] at h
 | _::_,[],h=>by simp[cI] at h
 | a::l,b::m,h=>by
  simp only[cI] at h
  split at h
  ·rename_i e;rw[e,BJ h]
  ·split at h<;> cases h
theorem gS:∀(a b c:List Int),leL a b→leL b c→leL a c
 | [],b,[],_,_=>by simp[leL,cI]
 | [],b,_::_,_,_=>by simp[leL,cI]
 | _::_,[],c,h,_=>by simp[leL,cI] at h
 | _::_,_::_,[],_,h=>by simp[leL,cI] at h
 | x::a,y::b,z::c,h1,h2=>by
  simp only[leL,cI] at h1 h2⊢
  by_cases e1:x=y
  ·subst e1
   rw[if_pos rfl] at h1
   by_cases e2:x=z
   ·subst e2
    rw[if_pos rfl] at h2⊢
    exact gS a b c h1 h2
   ·rw[if_neg e2] at h2⊢;exact h2
  ·rw[if_neg e1] at h1
   by_cases e2:y=z
   ·subst e2;rw[if_neg e1];exact h1
   ·rw[if_neg e2] at h2
    split at h1
    ·split at h2
     ·rw[if_neg (by omega),if_pos (by omega)];omega
     ·omega
    ·omega
theorem mB(a b:List Int):leL a b∨leL b a:=by
 unfold leL
 rw[mj a b]
 omega
theorem sf{a b:List Int}(h1:leL a b)(h2:leL b a):a=b:=by
 unfold leL at h1 h2
 rw[mj a b] at h2
 exact BJ (by omega)
theorem FP{a b:List Int}{i:Nat}(ha:i<a.length)(hb:i<b.length):cI (a.drop i) (b.drop i)=if a[i]=b[i] then cI (a.drop (i+1)) (b.drop (i+1)) else if a[i]<b[i] then -1 else 1:=by
 rw[List.drop_eq_getElem_cons ha,List.drop_eq_getElem_cons hb];rfl
theorem Ij{a b:List Int}{i:Nat}(ha:i<a.length)(hb:b.length≤i):cI (a.drop i) (b.drop i)=1:=by
 rw[List.drop_eq_getElem_cons ha,List.drop_eq_nil_of_le hb];rfl
theorem Fv{a b:List Int}(h:a.length<b.length):cI (a.drop a.length) (b.drop a.length)= -1:=by
 rw[List.drop_length,List.drop_eq_getElem_cons h];rfl
theorem Gy{a b:List Int}(h:¬a.length<b.length):cI (a.drop a.length) (b.drop a.length)=0:=by
 rw[List.drop_length,List.drop_eq_nil_of_le (by omega)];rfl
section
variable {α:Type}(le:α→α→Prop)[DecidableRel le]
def sd(x:α):List α→List α
 | []=>[x]
 | y::l=>if le x y then x::y::l else y::sd x l
def cu:List α→List α
 | []=>[]
 | x::l=>sd le x (cu l)
variable {le}
theorem pN(x:α):∀l:List α,(sd le x l).Perm (x::l)
 | []=> .refl _
 | y::l=>by
  unfold sd
  split
  ·exact .refl _
  ·exact((pN x l).cons y).trans (.swap _ _ _)
theorem de:∀l:List α,(cu le l).Perm l
 | []=> .refl _
 | x::l=>(pN x _).trans ((de l).cons x)
theorem wv(ht:∀x y z,le x y→le y z→le x z)(hT:∀x y,le x y∨le y x)(x:α):∀{l:List α},l.Pairwise le→(sd le x l).Pairwise le
 | [],_=>by simp[sd]
 | y::l,h=>by
  unfold sd
  rw[List.pairwise_cons] at h
  split
  ·rename_i hx
   rw[List.pairwise_cons,List.pairwise_cons]
   refine⟨fun z hz=>?_,h⟩
   rcases List.mem_cons.1 hz with rfl | hz
   ·exact hx
   ·exact ht _ _ _ hx (h.1 z hz)
  ·rename_i hx
   rw[List.pairwise_cons]
   refine⟨fun z hz=>?_,wv ht hT x h.2⟩
   rcases List.mem_cons.1 ((pN x l).mem_iff.1 hz) with rfl | hz
   ·exact(hT _ _).resolve_left hx
   ·exact h.1 z hz
theorem eZ(ht:∀x y z,le x y→le y z→le x z)(hT:∀x y,le x y∨le y x):∀l:List α,(cu le l).Pairwise le
 | []=> .nil
 | x::l=>wv ht hT x (eZ ht hT l)
theorem iM(ht:∀x y z,le x y→le y z→le x z)(hT:∀x y,le x y∨le y x)(ha:∀x y,le x y→le y x→x=y){l z:List α}(hz:z.Pairwise le)(hp:z.Perm l):z=cu le l:=
 List.Perm.eq_of_pairwise (le:=le) (fun a b _ _ h1 h2=>ha a b h1 h2) hz (eZ ht hT l) (hp.trans (de l).symm)
end
end Go.Ins
namespace Go.Ins
theorem kA{α:Type}{es:List α}(d:α){seen:List Nat}(hn:seen.Nodup)(hl:∀i∈seen,i<es.length)(hall:∀i,i<es.length→i∈seen):(seen.map fun i=>es.getD i d).Perm es:=by
 have h1:seen.Perm (List.range es.length):=by
  rw[List.perm_ext_iff_of_nodup hn List.nodup_range]
  intro i
  rw[List.mem_range]
  exact⟨hl i,hall i⟩
 have h2:(List.range es.length).map (fun i=>es.getD i d)=es:=by
  apply List.ext_getElem
  ·simp
  ·intro i h1 h2
   simp[List.getD_eq_getElem?_getD,h2]
 have:=h1.map fun i=>es.getD i d
 rwa [h2] at this
theorem eE{n:Nat}{seen:List Nat}(hn:seen.Nodup)(hl:∀i∈seen,i<n):seen.length≤n:=by
 have h1:seen.Perm ((List.range n).filter fun i=>decide (i∈seen)):=by
  rw[List.perm_ext_iff_of_nodup hn (List.nodup_range.filter _)]
  intro i
  rw[List.mem_filter,List.mem_range,decide_eq_true_eq]
  exact⟨fun h=>⟨hl i h,h⟩,fun h=>h.2⟩
 have h2:=List.length_filter_le (fun i=>decide (i∈seen)) (List.range n)
 rw[List.length_range] at h2
 rw[h1.length_eq];exact h2
def cM{α:Type}[DecidableEq α](out:List α)(x:α):List α:=if x∈out then out else out++[x]
theorem fB{α:Type}[DecidableEq α]:∀{l:List α} {out:List α} {y:α},y∈l.foldl cM out↔y∈out∨y∈l
 | [],out,y=>by simp
 | x::l,out,y=>by
  rw[List.foldl_cons,fB]
  unfold cM
  split
  ·rename_i h
   constructor
   ·rintro(h1 | h1)
    ·exact .inl h1
    ·exact .inr (List.mem_cons_of_mem _ h1)
   ·rintro(h1 | h1)
    ·exact .inl h1
    ·rcases List.mem_cons.1 h1 with rfl | h1
     ·exact .inl h
     ·exact .inr h1
  ·rw[List.mem_append,List.mem_singleton,List.mem_cons,or_assoc]
theorem jx{α:Type}[DecidableEq α]:∀{l:List α} {out:List α},out.Nodup→(l.foldl cM out).Nodup
 | [],out,h=>h
 | x::l,out,h=>by
  rw[List.foldl_cons]
  refine jx ?_
  unfold cM
  split
  ·exact h
  ·rename_i hx
   rw[List.nodup_append]
   refine⟨h,by simp,fun a ha b hb=>?_⟩
   rw[List.mem_singleton] at hb
   subst hb
   exact fun e=>hx (e▸ha)
theorem rV{α:Type}[DecidableEq α]:∀(l:List α) (out:List α),(l.foldl cM out).length≤out.length+l.length
 | [],out=>by simp
 | x::l,out=>by
  rw[List.foldl_cons]
  have:=rV l (cM out x)
  have h2:(cM out x).length≤out.length+1:=by unfold cM;split<;> simp
  simp only[List.length_cons];omega
end Go.Ins
