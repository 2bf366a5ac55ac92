/- Part It of the abstract layer: iterators. -/
import Derived.Test.YtgbdndlmdklefaaGreatGK10
set_option linter.unusedSimpArgs false
set_option linter.unusedVariables false
namespace Go.Mu
open Go Go.Conc
theorem AYield.mono{P:Program}{S:MC P}{r:Nat}{args:List AV}{σ:List AObj}{X Y:AV→List AObj→Prop}(h:AYield S r args σ X)(hn:∀v σ,X v σ→Y v σ):AYield S r args σ Y:=by
 intro K w cargs hR hV
 obtain⟨fn,tmps,assign,body,h1,h2⟩:=h K w cargs hR hV
 exact⟨fn,tmps,assign,body,h1,fun M hM V hO c cs=>M.bind (h2 M hM V hO c cs) fun g' w' V' ⟨v,c',σ',K',g1,g2,g3⟩=>M.ret ⟨v,c',σ',K',g1,hn _ _ g2,g3⟩⟩
def Same(M:Nat→Prop)(σ σ':List AObj):Prop:=σ.length≤σ'.length∧∀q,q<σ.length→¬M q→hget σ' q=hget σ q
def SameOn(M:Nat→Prop)(σ σ':List AObj):Prop:=σ.length≤σ'.length∧∀q,M q→hget σ' q=hget σ q
theorem Same.refl{M:Nat→Prop}{σ:List AObj}:Same M σ σ:=⟨Nat.le_refl _,fun _ _ _=>rfl⟩
theorem Same.trans{M:Nat→Prop}{σ σ' σ'':List AObj}(h:Same M σ σ')(h':Same M σ' σ''):Same M σ σ'':=
 ⟨Nat.le_trans h.1 h'.1,fun q hq hm=>(h'.2 q (Nat.lt_of_lt_of_le hq h.1) hm).trans (h.2 q hq hm)⟩
theorem Same.get{M:Nat→Prop}{σ σ':List AObj}(h:Same M σ σ'){q:Nat}{o:AObj}(hg:hget σ q=some o)(hm:¬M q):hget σ' q=some o:=by
 rw[h.2 q (hget_lt hg) hm];exact hg
theorem hget_app{σ l:List AObj}{q:Nat}(h:q<σ.length):hget (σ++l) q=hget σ q:=by unfold hget;rw[List.getElem?_append_left h]
theorem Same.app{M:Nat→Prop}{σ l:List AObj}:Same M σ (σ++l):=⟨by simp,fun q hq _=>hget_app hq⟩
theorem SameOn.app{M:Nat→Prop}{σ l:List AObj}(h:∀q,M q→q<σ.length):SameOn M σ (σ++l):=⟨by simp,fun q hq=>hget_app (h q hq)⟩
structure Taker{P:Program}(S:MC P)(r:Nat)(L:List AV) where
 M:Nat→Prop
 C:List AV→List AObj→Prop
 St:List AV→List AObj→Prop
 lt:∀{D σ q},C D σ→M q→q<σ.length
 keep:∀{D σ σ'},C D σ→SameOn M σ σ'→C D σ'
 keepS:∀{D σ σ'},St D σ→SameOn M σ σ'→St D σ'
 take:∀{D R σ v},L=D++v::R→C D σ→AYield S r [v] σ fun u σ'=>Same M σ σ'∧(u= .bool true∧C (D++[v]) σ'∨u= .bool false∧St (D++[v]) σ')
def Iter{P:Program}(S:MC P)(g:FuncId)(p q:List AV)(σ:List AObj)(L:List AV):Prop:=
 ∀r (T:Taker S r L) σ',(∀k,k<σ.length→hget σ' k=hget σ k∧¬T.M k)→σ.length≤σ'.length→T.C [] σ'→
  ACalls S g (p++[.yield r]++q) σ' fun _ σ''=>Same T.M σ' σ''∧(T.C L σ''∨∃D v R,L=D++v::R∧T.St (D++[v]) σ'')
theorem hget_hset{σ:List AObj}{r q:Nat}{o:AObj}:hget (hset σ r o) q=if r=q∧q<σ.length then some o else hget σ q:=by
 unfold hget hset
 rw[List.getElem?_set]
 by_cases h:r=q
 ·subst h
  by_cases h2:r<σ.length
  ·simp[h2]
  ·simp[h2]
 ·simp[h]
theorem ARun.rangeIter{E:Env}{f:Operand}{ps:Array Tmp}{as body:Code}{k:List Item}{fr:Fr}{g:FuncId}{p q:List AV}{σ0 σ1:List AObj}{Q:Post}{L:List AV}(hf:aeval fr f=some (.fn (.func g) p q))(hI:Iter E.S g p q σ0 L)(h0:σ0.length≤σ1.length)(hs:∀k,k<σ0.length→hget σ1 k=hget σ0 k)
  (hps:∃t,ps= #[t]∧t<E.N) (M0:Nat→Prop) (hM:∀q,M0 q→σ0.length≤q∧q<σ1.length) (Cc:List AV→List AObj→Prop) (Sc:Code→List AObj→Prop)
  (hC0:Cc [] σ1) (hCk:∀{D τ τ'},Cc D τ→(∀q,M0 q→hget τ' q=hget τ q)→Cc D τ') (hSk:∀{j τ τ'},Sc j τ→(∀q,M0 q→hget τ' q=hget τ q)→Sc j τ')
  (hb:∀D v R fn τ,L=D++v::R→Cc D τ→σ1.length<τ.length→hget τ σ1.length=some (.loop .ready none fn ps as body E.N fr)→
   ARun E (some σ1.length) [.code as,.beginRound,.code body] (frIn fr ps.toList [v]) τ fun j fr2 τ2=>Same (fun q=>M0 q∨q=σ1.length) τ τ2∧(∃pend',hget τ2 σ1.length=some (.loop .busy pend' fn ps as body E.N fr))∧(j=none∧Cc (D++[v]) τ2∨∃jc,j=some jc∧(∀t,jc≠ .goto t)∧Sc jc τ2))
  (hk:∀τ,σ1.length<τ.length→(∀q,q<σ1.length→¬M0 q→hget τ q=hget σ1 q)→Cc L τ→ARun E none k fr τ Q)
  (hk':∀τ j,σ1.length<τ.length→(∀q,q<σ1.length→¬M0 q→hget τ q=hget σ1 q)→Sc j τ→ARun E none (.code j::k) fr τ Q) :
  ARun E none (.code (.rangeFunc f ps as body)::k) fr σ1 Q:=by
 obtain⟨t0,rfl,ht0⟩:=hps
 refine ARun.rangeFunc hf fun fn=>?_
 let rec0:AObj:= .loop .ready none fn #[t0] as body E.N fr
 let T:Taker E.S σ1.length L:={
  M:=fun q=>M0 q∨q=σ1.length
  C:=fun D τ=>σ1.length<τ.length∧hget τ σ1.length=some rec0∧Cc D τ
  St:=fun D τ=>σ1.length<τ.length∧∃j,hget τ σ1.length=some (.loop .done (some j) fn #[t0] as body E.N fr)∧Sc j τ
  lt:=fun{D σ q} hc hm=>by
   rcases hm with hm | hm
   ·exact Nat.lt_trans (hM q hm).2 hc.1
   ·subst hm;exact hc.1
  keep:=fun{D σ σ'} hc hs=>⟨Nat.lt_of_lt_of_le hc.1 hs.1,by rw[hs.2 _ (.inr rfl)];exact hc.2.1,hCk hc.2.2 fun q hq=>hs.2 q (.inl hq)⟩
  keepS:=fun{D σ σ'} hc hs=>⟨Nat.lt_of_lt_of_le hc.1 hs.1,by
   obtain⟨j,h1,h2⟩:=hc.2
   exact⟨j,by rw[hs.2 _ (.inr rfl)];exact h1,hSk h2 fun q hq=>hs.2 q (.inl hq)⟩⟩
  take:=fun{D R τ v} hL hc=>by
   obtain⟨c1,c2,c3⟩:=hc
   refine AYield.of (E:=E) (args:=[v]) c2 rfl (by simpa using ht0) ((hb D v R fn τ hL c3 c1 c2).mono fun j fr2 τ2 hj=>?_)
   obtain⟨hsame,⟨pend',hp⟩,hcase⟩:=hj
   have hn:=hget_lt hp
   have hne:∀q,M0 q→∀o,hget (hset τ2 σ1.length o) q=hget τ2 q:=fun q hq o=>by
    rw[hget_hset,if_neg];intro h;have:=(hM q hq).2;omega
   refine⟨fun t ht=>?_,pend',hp,⟨by rw[length_hset];exact hsame.1,fun q hq hm=>?_⟩,?_⟩
   ·rcases hcase with⟨h1,_⟩ | ⟨jc,h1,h2,_⟩
    ·rw[h1] at ht;cases ht
    ·rw[h1] at ht;simp at ht;exact h2 t ht
   ·rw[hget_hset,if_neg (fun h=>hm (.inr h.1.symm))];exact hsame.2 q hq hm
   ·rcases hcase with⟨h1,h2⟩ | ⟨jc,h1,h2,h3⟩
    ·left
     subst h1
     refine⟨rfl,by rw[length_hset];exact hn,?_,hCk h2 fun q hq=>hne q hq _⟩
     rw[hget_hset,if_pos ⟨rfl,hn⟩];rfl
    ·right
     subst h1
     refine⟨rfl,by rw[length_hset];exact hn,jc,?_,hSk h3 fun q hq=>hne q hq _⟩
     rw[hget_hset,if_pos ⟨rfl,hn⟩];rfl}
 have hlen:(σ1++[rec0]).length=σ1.length+1:=by simp
 refine(hI σ1.length T (σ1++[rec0]) (fun k hk=>⟨by rw[hget_app (by omega)];exact hs k hk,fun hm=>?_⟩) (by omega) ⟨by omega,hget_at0,hCk hC0 fun q hq=>hget_app (hM q hq).2⟩).mono fun v τ hv=>?_
 ·rcases hm with hm | hm
  ·have:=(hM k hm).1;omega
  ·omega
 ·obtain⟨hsame,hv⟩:=hv
  have hold:∀q,q<σ1.length→¬M0 q→hget (hset τ σ1.length .dead) q=hget σ1 q:=fun q hq hm=>by
   rw[hget_hset,if_neg (fun h=>by omega),hsame.2 q (by omega) (fun h=>by rcases h with h | h;exact hm h;omega)]
   exact hget_app hq
  rcases hv with⟨c1,c2,c3⟩ | ⟨D,v',R,hL,c1,j,c2,c3⟩
  ·exact⟨.ready,none,by simp,c2,hk _ (by rw[length_hset];exact c1) hold (hCk c3 fun q hq=>by
    rw[hget_hset,if_neg];intro h;have:=(hM q hq).2;omega)⟩
  ·exact⟨.done,some j,by simp,c2,hk' _ j (by rw[length_hset];exact c1) hold (hSk c3 fun q hq=>by
    rw[hget_hset,if_neg];intro h;have:=(hM q hq).2;omega)⟩
theorem ARun.beginRound'{E:Env}{σ:List AObj}{Q:Post}{r:Nat}{k:List Item}{pend:Option Code}{fn:FuncId}{ps:Array Tmp}{as body:Code}{N:Nat}{fr fr0:Fr}(hg:hget σ r=some (.loop .ready pend fn ps as body N fr0))
  (h:∀τ,τ.length=σ.length→(∀q,q≠r→hget τ q=hget σ q)→hget τ r=some (.loop .busy pend fn ps as body N fr0)→ARun E (some r) k fr τ Q):ARun E (some r) (.beginRound::k) fr σ Q:=
 ARun.beginRound hg (h _ length_hset (fun q hq=>by rw[hget_hset,if_neg];intro h;exact hq h.1.symm) (hget_set hg _))
theorem app_of_same{σ τ:List AObj}(hl:σ.length≤τ.length)(h:∀q,q<σ.length→hget τ q=hget σ q):∃junk,τ=σ++junk:=by
 refine⟨τ.drop σ.length,?_⟩
 apply List.ext_getElem?
 intro i
 by_cases hi:i<σ.length
 ·rw[List.getElem?_append_left hi];exact h i hi
 ·rw[List.getElem?_append_right (by omega),List.getElem?_drop];congr 1;omega
theorem gives_same{σ τ:List AObj}{v v':AV}(hl:σ.length≤τ.length)(h:∀q,q<σ.length→hget τ q=hget σ q)(hw:wk v' v):Gives σ v v' τ:=⟨app_of_same hl h,hw⟩
theorem ARun.ghostC{E:Env}{ro:Option Nat}{todo:List Item}{fr:Fr}{σ:List AObj}{Q:Option Code→Fr→List AObj→Prop}(r sz:Nat){sz0:Nat}(hg:hget σ r=some (.cells [.list .full sz0 []]))
  (h:ARun E ro todo fr (hset σ r (.cells [.list (.own σ.length) sz []])++[.tail 0 sz]) Q):ARun E ro todo fr σ Q:=by
 refine h.mind fun K w tmps hR hF=>?_
 obtain⟨cc,T,h1,h2,h3,h4⟩:=hR.obj r _ hg
 have hr:=hget_lt hg
 obtain⟨c0,hc0⟩:∃c,cc.toList=[c]:=by
  have:=h2.1
  match hcc:cc.toList with
  | [c]=>exact⟨c,rfl⟩
  | []=>rw[hcc] at this;simp at this
  | _::_::_=>rw[hcc] at this;simp at this
 have hv:=h2
 rw[hc0] at hv
 have hv0:=hv.head
 cases hv0 with
 | list _ _ _ a cap f hl' ht ha hs h1' hh=>
  have hcap:cap=0:=ht
  subst hcap
  let K':Kr:={K with tl:=fun q=>if q=σ.length then fun m=>if m=0 then some (a,0) else none else K.tl q}
  have he:Ext σ.length K K':=⟨fun _ _=>rfl,fun r hr m x hx=>by
   show(if r=σ.length then _ else K.tl r) m=some x
   rw[if_neg (by omega)];exact hx,fun _ _ _ h=>h⟩
  have htl:K'.tl σ.length=fun m=>if m=0 then some (a,0) else none:=by
   show(if σ.length=σ.length then _ else _)=_
   rw[if_pos rfl]
  obtain⟨r1,r2⟩:=hR.ghostAt (σ':=σ++[.tail 0 sz]) σ.length (.tail 0 sz) K' he (by simp) (by simp) (fun q o' hq hg=>by
   rw[List.getElem?_append] at hg
   split at hg
   ·exact hg
   ·cases hk:q-σ.length with
    | zero=>omega
    | succ j=>rw[hk] at hg;simp at hg) (fun q hq=>by show(if q=σ.length then _ else K.tl q)=_;rw[if_neg hq]) rfl (fun b hb=>by
   obtain⟨a',cap',g1,g2,_⟩:=hb
   rw[htl] at g1;simp at g1;omega) ⟨a,0,by rw[htl];rfl,Nat.le_refl _,fun k hk=>by rw[htl];simp;omega,fun h=>by omega⟩
  have hg':hget (σ++[.tail 0 sz]) r=some (.cells [.list .full sz0 []]):=by rw[hget_app hr];exact hg
  obtain⟨cc2,T2,k1,k2,k3,k4⟩:=hR.obj r _ hg
  have hw:∀cc3 T3,w.heap[K.φ r]? = some (.cells cc3 T3 (0,0))→cc3=cc:=fun cc3 T3 hh=>by
   rw[h1] at hh;simp at hh;exact hh.1.symm
  obtain⟨cc4,T4,l1,l2,l3,l4⟩:=r1.obj r _ hg'
  have e4:cc4=cc:=hw cc4 T4 l1
  obtain⟨s1,s2⟩:=r1.turn (o':= .cells [.list (.own σ.length) sz []]) hg' (K'.φ r) rfl K' (.refl _ _) (fun _ _=>rfl) (fun _ _=>rfl) rfl (fun _ _ _=>rfl) (fun p v hv=>r1.stab _ _ _ hv) (fun b hb=>hb) ⟨cc,T,h1,by
   rw[hc0]
   exact .cons (.list (.own σ.length) sz [] a 0 f (Nat.le_refl _) ⟨by simp,by rw[htl];rfl⟩ (fun h=>absurd rfl h) (fun i hi=>by simp at hi) (fun i j hi=>by simp at hi) (fun i j hi=>by simp at hi)) .nil,h3,h4⟩ rfl rfl rfl
  have eset:(σ++[AObj.tail 0 sz]).set r (.cells [.list (.own σ.length) sz []])=hset σ r (.cells [.list (.own σ.length) sz []])++[.tail 0 sz]:=by
   unfold hset;rw[List.set_append_left _ _ hr]
  rw[eset] at s1 s2
  refine⟨K',s1,?_,r2.trans s2⟩
  have:(hset σ r (.cells [.list (.own σ.length) sz []])++[AObj.tail 0 sz]).length=σ.length+1:=by simp[length_hset]
  rw[this]
  exact hF.mono he (by omega)
def IterF{P:Program}(S:MC P)(g:FuncId)(p q:List AV)(F:Nat→Prop)(σ:List AObj)(L:List AV):Prop:=
 ∀r (T:Taker S r L) σ',(∀k,F k→hget σ' k=hget σ k∧¬T.M k)→T.C [] σ'→
  ACalls S g (p++[.yield r]++q) σ' fun _ σ''=>Same T.M σ' σ''∧(T.C L σ''∨∃D v R,L=D++v::R∧T.St (D++[v]) σ'')
theorem ARun.rangeIterF{E:Env}{f:Operand}{ps:Array Tmp}{as body:Code}{k:List Item}{fr:Fr}{g:FuncId}{p q:List AV}{F:Nat→Prop}{σ0 σ1:List AObj}{Q:Post}{L:List AV}(hf:aeval fr f=some (.fn (.func g) p q))(hI:IterF E.S g p q F σ0 L)(hs:∀k,F k→hget σ1 k=hget σ0 k∧k<σ1.length)
  (hps:∃t,ps= #[t]∧t<E.N) (M0:Nat→Prop) (hM:∀q,M0 q→¬F q∧q<σ1.length) (Cc:List AV→List AObj→Prop) (Sc:Code→List AObj→Prop)
  (hC0:Cc [] σ1) (hCk:∀{D τ τ'},Cc D τ→(∀q,M0 q→hget τ' q=hget τ q)→Cc D τ') (hSk:∀{j τ τ'},Sc j τ→(∀q,M0 q→hget τ' q=hget τ q)→Sc j τ')
  (hb:∀D v R fn τ,L=D++v::R→Cc D τ→σ1.length<τ.length→hget τ σ1.length=some (.loop .ready none fn ps as body E.N fr)→
   ARun E (some σ1.length) [.code as,.beginRound,.code body] (frIn fr ps.toList [v]) τ fun j fr2 τ2=>Same (fun q=>M0 q∨q=σ1.length) τ τ2∧(∃pend',hget τ2 σ1.length=some (.loop .busy pend' fn ps as body E.N fr))∧(j=none∧Cc (D++[v]) τ2∨∃jc,j=some jc∧(∀t,jc≠ .goto t)∧Sc jc τ2))
  (hk:∀τ,σ1.length<τ.length→(∀q,q<σ1.length→¬M0 q→hget τ q=hget σ1 q)→Cc L τ→ARun E none k fr τ Q)
  (hk':∀τ j,σ1.length<τ.length→(∀q,q<σ1.length→¬M0 q→hget τ q=hget σ1 q)→Sc j τ→ARun E none (.code j::k) fr τ Q) :
  ARun E none (.code (.rangeFunc f ps as body)::k) fr σ1 Q:=by
 obtain⟨t0,rfl,ht0⟩:=hps
 refine ARun.rangeFunc hf fun fn=>?_
 let rec0:AObj:= .loop .ready none fn #[t0] as body E.N fr
 let T:Taker E.S σ1.length L:={
  M:=fun q=>M0 q∨q=σ1.length
  C:=fun D τ=>σ1.length<τ.length∧hget τ σ1.length=some rec0∧Cc D τ
  St:=fun D τ=>σ1.length<τ.length∧∃j,hget τ σ1.length=some (.loop .done (some j) fn #[t0] as body E.N fr)∧Sc j τ
  lt:=fun{D σ q} hc hm=>by
   rcases hm with hm | hm
   ·exact Nat.lt_trans (hM q hm).2 hc.1
   ·subst hm;exact hc.1
  keep:=fun{D σ σ'} hc hs=>⟨Nat.lt_of_lt_of_le hc.1 hs.1,by rw[hs.2 _ (.inr rfl)];exact hc.2.1,hCk hc.2.2 fun q hq=>hs.2 q (.inl hq)⟩
  keepS:=fun{D σ σ'} hc hs=>⟨Nat.lt_of_lt_of_le hc.1 hs.1,by
   obtain⟨j,h1,h2⟩:=hc.2
   exact⟨j,by rw[hs.2 _ (.inr rfl)];exact h1,hSk h2 fun q hq=>hs.2 q (.inl hq)⟩⟩
  take:=fun{D R τ v} hL hc=>by
   obtain⟨c1,c2,c3⟩:=hc
   refine AYield.of (E:=E) (args:=[v]) c2 rfl (by simpa using ht0) ((hb D v R fn τ hL c3 c1 c2).mono fun j fr2 τ2 hj=>?_)
   obtain⟨hsame,⟨pend',hp⟩,hcase⟩:=hj
   have hn:=hget_lt hp
   have hne:∀q,M0 q→∀o,hget (hset τ2 σ1.length o) q=hget τ2 q:=fun q hq o=>by
    rw[hget_hset,if_neg];intro h;have:=(hM q hq).2;omega
   refine⟨fun t ht=>?_,pend',hp,⟨by rw[length_hset];exact hsame.1,fun q hq hm=>?_⟩,?_⟩
   ·rcases hcase with⟨h1,_⟩ | ⟨jc,h1,h2,_⟩
    ·rw[h1] at ht;cases ht
    ·rw[h1] at ht;simp at ht;exact h2 t ht
   ·rw[hget_hset,if_neg (fun h=>hm (.inr h.1.symm))];exact hsame.2 q hq hm
   ·rcases hcase with⟨h1,h2⟩ | ⟨jc,h1,h2,h3⟩
    ·left
     subst h1
     refine⟨rfl,by rw[length_hset];exact hn,?_,hCk h2 fun q hq=>hne q hq _⟩
     rw[hget_hset,if_pos ⟨rfl,hn⟩];rfl
    ·right
     subst h1
     refine⟨rfl,by rw[length_hset];exact hn,jc,?_,hSk h3 fun q hq=>hne q hq _⟩
     rw[hget_hset,if_pos ⟨rfl,hn⟩];rfl}
 have hlen:(σ1++[rec0]).length=σ1.length+1:=by simp
 refine(hI σ1.length T (σ1++[rec0]) (fun k hk=>⟨by rw[hget_app (hs k hk).2];exact(hs k hk).1,fun hm=>?_⟩) ⟨by omega,hget_at0,hCk hC0 fun q hq=>hget_app (hM q hq).2⟩).mono fun v τ hv=>?_
 ·rcases hm with hm | hm
  ·exact(hM k hm).1 hk
  ·have:=(hs k hk).2;omega
 ·obtain⟨hsame,hv⟩:=hv
  have hold:∀q,q<σ1.length→¬M0 q→hget (hset τ σ1.length .dead) q=hget σ1 q:=fun q hq hm=>by
   rw[hget_hset,if_neg (fun h=>by omega),hsame.2 q (by omega) (fun h=>by rcases h with h | h;exact hm h;omega)]
   exact hget_app hq
  rcases hv with⟨c1,c2,c3⟩ | ⟨D,v',R,hL,c1,j,c2,c3⟩
  ·exact⟨.ready,none,by simp,c2,hk _ (by rw[length_hset];exact c1) hold (hCk c3 fun q hq=>by
    rw[hget_hset,if_neg];intro h;have:=(hM q hq).2;omega)⟩
  ·exact⟨.done,some j,by simp,c2,hk' _ j (by rw[length_hset];exact c1) hold (hSk c3 fun q hq=>by
    rw[hget_hset,if_neg];intro h;have:=(hM q hq).2;omega)⟩
end Go.Mu
