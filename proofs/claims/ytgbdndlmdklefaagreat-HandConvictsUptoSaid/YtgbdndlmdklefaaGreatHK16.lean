/- Part Vg of the abstract layer: slices that are written into begin, and are written into no more. -/
import Derived.Test.YtgbdndlmdklefaaGreatHK15
set_option linter.unusedSimpArgs false
set_option linter.unusedVariables false
namespace Go.Mu
open Go Go.Conc
theorem R.freeze{K:Kr}{σ:List aa}{w:World}(hR:R K σ w){r sz:Nat}{xs:List AV}(hg:ai σ r=some (.vec sz xs)) :
  ∃K',R K' (ax σ r .dead) w∧Step K σ w K' (ax σ r .dead) w∧∀c,VR K σ.length (.vec r xs.length) c→VR K' σ.length (.list .no sz xs) c:=by
 have hr:=aN hg
 obtain⟨a,cap,h1,h2,h3,hsz,h5⟩:=hR.obj r _ hg
 by_cases hc:0<cap
 ·obtain⟨b,o,cc,E,rfl,g2,g3,g4,g5,g6⟩:=h5 hc
  have hle:xs.length*sz≤cap*sz:=Nat.mul_le_mul_right sz h2
  generalize hrow:(cc.toList.drop o).take (xs.length*sz)=row at g4
  have hl:row.length=xs.length*sz:=by rw[← hrow];simp;omega
  have hone:∀x∈row,x.oneCell'=true:=fun x hx=>g5 x (by rw[← hrow] at hx;exact List.mem_of_mem_drop (List.mem_of_mem_take hx))
  let K':Kr:={K with S:=fun b' p=>if b'=b∧o≤p∧p<o+row.length then row[p-o]? else K.S b' p}
  have hext:Ext σ.length K K':=⟨fun _ _=>rfl,fun _ _ _ _ h=>h,fun b' p v hv=>by
   show(if b'=b∧_ then _ else _)=_
   rw[if_neg]
   ·exact hv
   ·rintro⟨rfl,_⟩;rw[g6 p] at hv;cases hv⟩
  obtain⟨r1,r2⟩:=hR.fP (w':=w) (o':= .dead) hg b ⟨_,cap,h1,hc,rfl⟩ K' hext (fun _ _=>rfl) (fun _ _=>rfl) rfl
   (fun b' p hb=>by show(if b'=b∧_ then _ else _)=_;rw[if_neg (fun h=>hb h.1)])
   (fun p v hv=>by
    have hv':(if b=b∧o≤p∧p<o+row.length then row[p-o]? else K.S b p)=some v:=hv
    split at hv'
    ·rename_i hp
     have hlt:p-o<row.length:=by omega
     rw[List.getElem?_eq_getElem hlt] at hv'
     have hcc:p<cc.size:=by omega
     simp only[World.cell?,g2,Option.isSome_none,Bool.false_eq_true,if_false]
     rw[← hv']
     have:row[p-o]? = cc[p]? :=by
      rw[← hrow,List.getElem?_take_of_lt (by omega),List.getElem?_drop,show o+(p-o)=p by omega];simp
     rw[← this,List.getElem?_eq_getElem hlt]
    ·rw[g6 p] at hv';cases hv')
   (fun b' hb=>hb.elim) trivial rfl rfl rfl
  refine⟨K',r1,r2,fun c hv=>?_⟩
  cases hv with
  | vec _ _ a' cap' hr' hl' ht ha=>
   rw[h1] at ht;simp only[Option.some.injEq,Prod.mk.injEq] at ht
   obtain⟨rfl,rfl⟩:=ht
   refine VR.nm h2 trivial hsz (g4.mono hext (Nat.le_refl _)) hone fun _=>⟨b,o,rfl,fun p hp=>?_⟩
   show(if b=b∧o≤o+p∧o+p<o+row.length then row[o+p-o]? else _)=_
   rw[if_pos ⟨rfl,by omega,by omega⟩,Nat.add_sub_cancel_left,List.getElem?_eq_getElem hp]
 ·have h0:xs=[]:=List.eq_nil_of_length_eq_zero (by omega)
  subst h0
  obtain⟨r1,r2⟩:=hR.iV (σ':=ax σ r .dead) r .dead K (.refl _ _) (by simp[ax]) (iE hr) (fun q o' hq hg=>jW hq hg) (fun _ _=>rfl) rfl (fun b hb=>hb) trivial
  refine⟨K,r1,r2,fun c hv=>?_⟩
  cases hv with
  | vec _ _ a' cap' hr' hl' ht ha=>
   exact .list .no sz [] a' cap' (fun _ _=>undef) hl' trivial (fun h=>absurd rfl h) (fun i hi=>by simp at hi) (fun i j hi=>by simp at hi) (fun i j hi=>by simp at hi)
theorem iN{σ:List aa}{r:Nat}:(ax σ r .dead).length=σ.length:=by simp[ax]
theorem aj.freeze{E:Env}{ro:Option Nat}{todo:List Item}{kp:Nat→Bool}{tm sl:List (Nat×AV)}{σ:List aa}{Q:au}(d:Nat){r n sz:Nat}{xs:List AV}(hd:kp d=true)(hl:ae sl d=some (.vec r n))(hg:ai σ r=some (.vec sz xs))(hn:xs.length=n)
  (h:aj E ro todo ⟨kp,[],ins sl d (.list .no sz xs)⟩ (ax σ r .dead) Q):aj E ro todo ⟨kp,tm,sl⟩ σ Q:=by
 subst hn
 refine h.iK fun K w tmps hR hF=>?_
 obtain⟨K',r1,r2,hv⟩:=hR.freeze hg
 have he:Ext σ.length K K':=r2.ext
 refine⟨K',r1,⟨hF.1,fun t v hv'=>?_⟩,r2⟩
 rw[iN]
 have hv2:(if kp t=true then ae (ins sl d (.list .no sz xs)) t else ae [] t)=some v:=hv'
 by_cases hk:kp t=true
 ·rw[if_pos hk,iZ] at hv2
  by_cases e:d=t
  ·subst e
   rw[if_pos rfl] at hv2;simp at hv2;subst hv2
   obtain⟨c,k1,k2⟩:=hF.2 d (.vec r xs.length) (by show(if kp d=true then ae sl d else ae tm d)=_;rw[if_pos hk];exact hl)
   exact⟨c,k1,hv c k2⟩
  ·rw[if_neg e] at hv2
   obtain⟨c',k1,k2⟩:=hF.2 t v (by show(if kp t=true then ae sl t else ae tm t)=_;rw[if_pos hk];exact hv2)
   exact⟨c',k1,k2.mono he (Nat.le_refl _)⟩
 ·rw[if_neg hk] at hv2;cases hv2
theorem aj.N7{E:Env}{ro:Option Nat}{todo:List Item}{fr:Fr}{σ:List aa}{Q:au}(q k:Nat){r n sz:Nat}{xs cs:List AV}(hq:ai σ q=some (.cells cs))(hk:cs[k]? = some (.vec r n))(hg:ai σ r=some (.vec sz xs))(hn:xs.length=n)
  (h:aj E ro todo fr (ax (ax σ r .dead) q (.cells (cs.set k (.list .no sz xs)))) Q):aj E ro todo fr σ Q:=by
 subst hn
 refine h.iK fun K w tmps hR hF=>?_
 obtain⟨K',r1,r2,hv⟩:=hR.freeze hg
 have hne:r≠q:=fun e=>by subst e;rw[hg] at hq;cases hq
 have hq':ai (ax σ r .dead) q=some (.cells cs):=by rw[bt hne];exact hq
 obtain⟨cc,T,h1,h2,h3,h4⟩:=hR.obj q _ hq
 obtain⟨cc',T',g1,g2,g3,g4⟩:=r1.obj q _ hq'
 have hφ:K'.φ q=K.φ q:=r2.ext.φ q (aN hq)
 rw[hφ,h1] at g1
 simp only[Option.some.injEq,Obj.cells.injEq,and_true] at g1
 obtain⟨rfl,rfl⟩:=g1
 have hks:=hk
 obtain⟨hkl,hke⟩:=List.getElem?_eq_some_iff.1 hk
 have h2':VRs K' (ax σ r .dead).length (cs.set k (.list .no sz xs)) cc.toList:=by
  rw[iN]
  rw[iN] at g2
  refine⟨by rw[List.length_set];exact h2.1,fun i h5 h6=>?_⟩
  by_cases e:k=i
  ·subst e
   rw[List.getElem_set_self]
   have:=h2.2 k hkl h6
   rw[hke] at this
   exact hv _ this
  ·rw[List.getElem_set_ne e]
   exact g2.2 i (by rw[List.length_set] at h5;exact h5) h6
 obtain⟨s1,s2⟩:=r1.fP (o':= .cells (cs.set k (.list .no sz xs))) hq' (K'.φ q) rfl K' (.refl _ _) (fun _ _=>rfl) (fun _ _=>rfl) rfl (fun _ _ _=>rfl) (fun p v hv=>r1.stab _ _ _ hv) (fun b hb=>hb) ⟨cc,T,by rw[hφ];exact h1,h2',h3,g4⟩ rfl rfl rfl
 refine⟨K',s1,?_,r2.trans s2⟩
 have hlen:(ax (ax σ r aa.dead) q (aa.cells (cs.set k (.list .no sz xs)))).length=σ.length:=by simp[ax]
 rw[hlen]
 exact hF.mono r2.ext (Nat.le_refl _)
theorem ao.Td{P:Program}{S:MC P}{f:FuncId}{args:List AV}{σ:List aa}{Q:AV→List aa→Prop}
  (h:ao S f args σ fun v σ'=>∃r sz xs,v= .vec r xs.length∧ai σ' r=some (.vec sz xs)∧Q (.list .no sz xs) (ax σ' r .dead)):ao S f args σ Q:=by
 refine⟨h.1,fun M hM K w V cargs kd cs hR hO hV=>M.bind (h.2 M hM K w V cargs kd cs hR hO hV) ?_⟩
 rintro g' w' V' ⟨fr,v,σ',K',e1,e2,e3,hl,⟨r,sz,xs,rfl,hg,hq⟩,hR',hO',hS⟩
 obtain⟨K2,r1,r2,hv2⟩:=hR'.freeze hg
 exact M.ret ⟨fr,_,_,K2,e1,e2,e3,hl.mono fun c hv=>by rw[iN];exact hv2 c hv,hq,r1,hO'.iK hR' r1 r2,hS.trans (.ng r2)⟩
theorem ao.yl{P:Program}{S:MC P}{f:FuncId}{args:List AV}{σ:List aa}{Q:AV→List aa→Prop}
  (h:ao S f args σ fun v σ'=>∃vs k r sz xs,v= .tup vs∧vs[k]? = some (.vec r xs.length)∧ai σ' r=some (.vec sz xs)∧Q (.tup (vs.set k (.list .no sz xs))) (ax σ' r .dead)):ao S f args σ Q:=by
 refine⟨h.1,fun M hM K w V cargs kd cs hR hO hV=>M.bind (h.2 M hM K w V cargs kd cs hR hO hV) ?_⟩
 rintro g' w' V' ⟨fr,v,σ',K',e1,e2,e3,hl,⟨vs,k,r,sz,xs,rfl,hk,hg,hq⟩,hR',hO',hS⟩
 obtain⟨K2,r1,r2,hv2⟩:=hR'.freeze hg
 refine M.ret ⟨fr,_,_,K2,e1,e2,e3,hl.mono fun c hv=>?_,hq,r1,hO'.iK hR' r1 r2,hS.trans (.ng r2)⟩
 rw[iN]
 cases hv with
 | tup _ cs' hl hh=>
  obtain⟨hkl,hke⟩:=List.getElem?_eq_some_iff.1 hk
  refine .tup _ cs' (by simpa using hl) fun i h1 h2=>?_
  by_cases e:k=i
  ·subst e
   rw[List.getElem_set_self]
   have:=hh k hkl h2
   rw[hke] at this
   exact hv2 _ this
  ·rw[List.getElem_set_ne e]
   exact(hh i (by simpa using h1) h2).mono r2.ext (Nat.le_refl _)
theorem aj.pQ{E:Env}{ro:Option Nat}{todo:List Item}{kp:Nat→Bool}{tm sl:List (Nat×AV)}{σ:List aa}{Q:au}(d sz:Nat){sz0:Nat}(hd:kp d=true)(hl:ae sl d=some (.list .full sz0 []))
  (h:aj E ro todo ⟨kp,[],ins sl d (.vec σ.length 0)⟩ (σ++[.vec sz []]) Q):aj E ro todo ⟨kp,tm,sl⟩ σ Q:=by
 refine h.iK fun K w tmps hR hF=>?_
 obtain⟨c,hc,hv⟩:=hF.2 d (.list .full sz0 []) (by show(if kp d=true then ae sl d else ae tm d)=_;rw[if_pos hd];exact hl)
 cases hv with
 | list _ _ _ a cap f hl' ht ha hs h1 hh=>
  have hcap:cap=0:=ht
  subst hcap
  let K':Kr:={K with tl:=fun q=>if q=σ.length then fun m=>if m=0 then some (a,0) else none else K.tl q}
  have he:Ext σ.length K K':=⟨fun _ _=>rfl,fun r hr m x hx=>by
   show(if r=σ.length then _ else K.tl r) m=some x
   rw[if_neg (by omega)];exact hx,fun _ _ _ h=>h⟩
  have htl:K'.tl σ.length=fun m=>if m=0 then some (a,0) else none:=by
   show(if σ.length=σ.length then _ else _)=_
   rw[if_pos rfl]
  obtain⟨r1,r2⟩:=hR.iV (σ':=σ++[.vec sz []]) σ.length (.vec sz []) K' he (by simp) (by simp) (fun q o' hq hg=>by
   rw[List.getElem?_append] at hg
   split at hg
   ·exact hg
   ·cases hk:q-σ.length with
    | zero=>omega
    | succ j=>rw[hk] at hg;simp at hg) (fun q hq=>by show(if q=σ.length then _ else K.tl q)=_;rw[if_neg hq]) rfl (fun b hb=>by
   obtain⟨a',cap',g1,g2,_⟩:=hb
   rw[htl] at g1;simp at g1;omega) ⟨a,0,by rw[htl];rfl,Nat.le_refl _,fun k hk=>by rw[htl];simp at hk⊢;omega,fun i hi=>by simp at hi,fun h=>by omega⟩
  refine⟨K',r1,⟨hF.1,fun t v hv=>?_⟩,r2⟩
  have hv':(if kp t=true then ae (ins sl d (.vec σ.length 0)) t else ae [] t)=some v:=hv
  by_cases hk:kp t=true
  ·rw[if_pos hk,iZ] at hv'
   by_cases e:d=t
   ·subst e
    rw[if_pos rfl] at hv';simp at hv';subst hv'
    exact⟨_,hc,.vec σ.length 0 a 0 (by simp) (Nat.le_refl _) (by rw[htl];rfl) (.inl rfl)⟩
   ·rw[if_neg e] at hv'
    obtain⟨c',k1,k2⟩:=hF.2 t v (by show(if kp t=true then ae sl t else ae tm t)=_;rw[if_pos hk];exact hv')
    exact⟨c',k1,k2.mono he (by simp)⟩
  ·rw[if_neg hk] at hv';cases hv'
theorem aj.O8{E:Env}{ro:Option Nat}{todo:List Item}{fr:Fr}{σ:List aa}{Q:Option Code→Fr→List aa→Prop}(r k sz:Nat){sz0:Nat}{cs:List AV}(hg:ai σ r=some (.cells cs))(hk:cs[k]? = some (.list .full sz0 []))
  (h:aj E ro todo fr (ax σ r (.cells (cs.set k (.vec σ.length 0)))++[.vec sz []]) Q):aj E ro todo fr σ Q:=by
 refine h.iK fun K w tmps hR hF=>?_
 obtain⟨cc,T,h1,h2,h3,h4⟩:=hR.obj r _ hg
 have hr:=aN hg
 obtain⟨hkl,hke⟩:=List.getElem?_eq_some_iff.1 hk
 have hkl':k<cc.toList.length:=by rw[← h2.1];exact hkl
 have hv0:=h2.2 k hkl hkl'
 rw[hke] at hv0
 generalize hc0:cc.toList[k]=c0 at hv0
 cases hv0 with
 | list _ _ _ a cap f hl' ht ha hs h1' hh=>
  have hcap:cap=0:=ht
  subst hcap
  let K':Kr:={K with tl:=fun q=>if q=σ.length then fun m=>if m=0 then some (a,0) else none else K.tl q}
  have he:Ext σ.length K K':=⟨fun _ _=>rfl,fun r hr m x hx=>by
   show(if r=σ.length then _ else K.tl r) m=some x
   rw[if_neg (by omega)];exact hx,fun _ _ _ h=>h⟩
  have htl:K'.tl σ.length=fun m=>if m=0 then some (a,0) else none:=by
   show(if σ.length=σ.length then _ else _)=_
   rw[if_pos rfl]
  obtain⟨r1,r2⟩:=hR.iV (σ':=σ++[.vec sz []]) σ.length (.vec sz []) K' he (by simp) (by simp) (fun q o' hq hg=>by
   rw[List.getElem?_append] at hg
   split at hg
   ·exact hg
   ·cases hk:q-σ.length with
    | zero=>omega
    | succ j=>rw[hk] at hg;simp at hg) (fun q hq=>by show(if q=σ.length then _ else K.tl q)=_;rw[if_neg hq]) rfl (fun b hb=>by
   obtain⟨a',cap',g1,g2,_⟩:=hb
   rw[htl] at g1;simp at g1;omega) ⟨a,0,by rw[htl];rfl,Nat.le_refl _,fun k hk=>by rw[htl];simp at hk⊢;omega,fun i hi=>by simp at hi,fun h=>by omega⟩
  have hg':ai (σ++[.vec sz []]) r=some (.cells cs):=by rw[aB hr];exact hg
  have h2':VRs K' (σ++[aa.vec sz []]).length (cs.set k (.vec σ.length 0)) cc.toList:=by
   refine⟨by rw[List.length_set];exact h2.1,fun i h5 h6=>?_⟩
   by_cases e:k=i
   ·subst e
    rw[List.getElem_set_self]
    have:cc.toList[k]= .slice a 0 0:=hc0
    rw[this]
    exact .vec σ.length 0 a 0 (by simp) (Nat.le_refl _) (by rw[htl];rfl) (.inl rfl)
   ·rw[List.getElem_set_ne e]
    exact(h2.2 i (by rw[List.length_set] at h5;exact h5) h6).mono he (by simp)
  obtain⟨s1,s2⟩:=r1.fP (o':= .cells (cs.set k (.vec σ.length 0))) hg' (K'.φ r) rfl K' (.refl _ _) (fun _ _=>rfl) (fun _ _=>rfl) rfl (fun _ _ _=>rfl) (fun p v hv=>r1.stab _ _ _ hv) (fun b hb=>hb) ⟨cc,T,h1,h2',h3,h4⟩ rfl rfl rfl
  have eset:(σ++[aa.vec sz []]).set r (.cells (cs.set k (.vec σ.length 0)))=ax σ r (.cells (cs.set k (.vec σ.length 0)))++[.vec sz []]:=by
   unfold ax;rw[List.set_append_left _ _ hr]
  rw[eset] at s1 s2
  refine⟨K',s1,?_,r2.trans s2⟩
  have:(ax σ r (.cells (cs.set k (.vec σ.length 0)))++[aa.vec sz []]).length=σ.length+1:=by simp[aJ]
  rw[this]
  exact hF.mono he (by omega)
end Go.Mu
namespace Go.Mu
open Go Go.Conc
theorem R.iU{K:Kr}{σ:List aa}{w:World}(hR:R K σ w){r:Nat}{cs:List AV}(hg:ai σ r=some (.cells cs)) :
  ∃K',R K' (ax σ r .dead) w∧Step K σ w K' (ax σ r .dead) w∧∀off c,VR K σ.length (.ptr r off) c→VR K' σ.length (.eptr cs off) c:=by
 have hr:=aN hg
 obtain⟨cc,E,g2,g4,g5,g6⟩:=hR.obj r _ hg
 let K':Kr:={K with S:=fun b' p=>if b'=K.φ r then cc.toList[p]? else K.S b' p}
 have hext:Ext σ.length K K':=⟨fun _ _=>rfl,fun _ _ _ _ h=>h,fun b' p v hv=>by
  show(if b'=K.φ r then _ else _)=_
  rw[if_neg]
  ·exact hv
  ·rintro rfl;rw[g6 p] at hv;cases hv⟩
 obtain⟨r1,r2⟩:=hR.fP (w':=w) (o':= .dead) hg (K.φ r) rfl K' hext (fun _ _=>rfl) (fun _ _=>rfl) rfl
  (fun b' p hb=>by show(if b'=K.φ r then _ else _)=_;rw[if_neg hb])
  (fun p v hv=>by
   have hv':(if K.φ r=K.φ r then cc.toList[p]? else K.S (K.φ r) p)=some v:=hv
   rw[if_pos rfl] at hv'
   simp only[World.cell?,g2,Option.isSome_none,Bool.false_eq_true,if_false]
   simpa using hv')
  (fun b' hb=>hb.elim) trivial rfl rfl rfl
 refine⟨K',r1,r2,fun off c hv=>?_⟩
 cases hv with
 | ptr _ _ h=>
  have hl:=g4.1
  have ai:∀j (hj:j<cs.length),cc.toList[j]? = some (cc.toList.getD j undef):=fun j hj=>by
   rw[List.getD_eq_getElem?_getD,List.getElem?_eq_getElem (by omega)];rfl
  have hS:∀j,j<cs.length→K'.S (K.φ r) (0+j)=some (cc.toList.getD j undef):=fun j hj=>by
   show(if K.φ r=K.φ r then cc.toList[0+j]? else _)=_
   rw[if_pos rfl,Nat.zero_add];exact ai j hj
  have:=VR.eptr (K:=K') (n:=σ.length) cs off (K.φ r) 0 (fun j=>cc.toList.getD j undef) hS (fun j hj=>g5 _ (List.mem_of_getElem? (ai j hj))) fun j hj=>by
   have h2:=(g4.mono hext (Nat.le_refl _)).2 j hj (by omega)
   have e:cc.toList.getD j undef=cc.toList[j]'(by omega):=by
    rw[List.getD_eq_getElem?_getD,List.getElem?_eq_getElem (by omega)];rfl
   simp only[e];exact h2
  simpa using this
section
variable {E:Env}{M:cw E.P}{b:Frame}{cs:List Frame}{ds:List Deferred}{T:List (Nat×Value)}{V0:Nat→Prop}{K0:Kr}{σ0:List aa}{w0:World}{au:Goroutine→World→(Nat→Prop)→Prop}{fr fr':Fr}{σ σ':List aa}{todo k:List Item}
theorem JK.iK(h:JK E M b cs ds T V0 K0 σ0 w0 au todo fr' σ')(hm:∀(K:Kr) (w:World) (tmps:Array Value),R K σ w→FR K σ.length E.N fr tmps→∃K',R K' σ' w∧FR K' σ'.length E.N fr' tmps∧Step K σ w K' σ' w):JK E M b cs ds T V0 K0 σ0 w0 au todo fr σ:=by
 intro K w V a hR hO hF hS hd hT
 obtain⟨K',h1,h2,h3⟩:=hm K w a.tmps hR hF
 exact h K' w V a h1 (hO.iK hR h1 h3) h2 (hS.trans (.ng h3)) hd hT
theorem JK.iU{kp:Nat→Bool}{tm sl:List (Nat×AV)}(d:Nat){r off:Nat}{cells:List AV}(hd:kp d=true)(hl:ae sl d=some (.ptr r off))(hg:ai σ r=some (.cells cells))
  (h:JK E M b cs ds T V0 K0 σ0 w0 au todo ⟨kp,[],ins sl d (.eptr cells off)⟩ (ax σ r .dead)):JK E M b cs ds T V0 K0 σ0 w0 au todo ⟨kp,tm,sl⟩ σ:=by
 refine h.iK fun K w tmps hR hF=>?_
 obtain⟨K',r1,r2,hv⟩:=hR.iU hg
 have he:Ext σ.length K K':=r2.ext
 refine⟨K',r1,⟨hF.1,fun t v hv'=>?_⟩,r2⟩
 rw[iN]
 have hv2:(if kp t=true then ae (ins sl d (.eptr cells off)) t else ae [] t)=some v:=hv'
 by_cases hk:kp t=true
 ·rw[if_pos hk,iZ] at hv2
  by_cases e:d=t
  ·subst e
   rw[if_pos rfl] at hv2;simp at hv2;subst hv2
   obtain⟨c,k1,k2⟩:=hF.2 d (.ptr r off) (by show(if kp d=true then ae sl d else ae tm d)=_;rw[if_pos hk];exact hl)
   exact⟨c,k1,hv off c k2⟩
  ·rw[if_neg e] at hv2
   obtain⟨c',k1,k2⟩:=hF.2 t v (by show(if kp t=true then ae sl t else ae tm t)=_;rw[if_pos hk];exact hv2)
   exact⟨c',k1,k2.mono he (Nat.le_refl _)⟩
 ·rw[if_neg hk] at hv2;cases hv2
theorem R.none{K:Kr}{w:World}(h:R K σ w):R K [] w:=
 ⟨h.stab,fun r o hr=>by simp at hr,fun r r' o o' b h1=>by simp at h1,fun g cs hg=>⟨(h.lay g cs hg).1,fun r o hr=>by simp at hr⟩⟩
theorem aU.none{Sh V:Nat→Prop}{K:Kr}{w:World}(h:aU Sh V K σ w):aU Sh V K [] w:=
 ⟨fun b hb=>absurd (fun r o hr=>by simp at hr) hb,h.stab,h.lay,h.sh⟩
theorem bj.none{K:Kr}{b:Nat}:bj K [] b:=fun r o hr=>by simp at hr
theorem aI.none{V0 V:Nat→Prop}{K0 K:Kr}{w0 w:World}(h:aI V0 K0 [] w0 V K σ w):aI V0 K0 [] w0 V K [] w:=
 ⟨⟨fun r hr=>absurd hr (Nat.not_lt_zero r),fun r hr=>absurd hr (Nat.not_lt_zero r),h.ext.S⟩,Nat.le_refl _,h.size,fun b hb hv hf=>⟨(h.keep b hb hv hf).1,bj.none,(h.keep b hb hv hf).2.2⟩,h.sub,h.new,h.os,h.tape,h.output⟩
theorem JK.forget{kp:Nat→Bool}{tm sl:List (Nat×AV)}(hlt:∀p∈sl,Lt 0 p.2)(h:JK E M b cs ds T V0 K0 [] w0 au todo ⟨kp,[],sl⟩ []):JK E M b cs ds T V0 K0 [] w0 au todo ⟨kp,tm,sl⟩ σ:=by
 intro K w V a hR hO hF hS hd hT
 refine h K w V a hR.none hO.none ⟨hF.1,fun t v hv=>?_⟩ hS.none hd hT
 have hv2:(if kp t=true then ae sl t else ae [] t)=some v:=hv
 by_cases hk:kp t=true
 ·rw[if_pos hk] at hv2
  obtain⟨c,k1,k2⟩:=hF.2 t v (by show(if kp t=true then ae sl t else ae tm t)=_;rw[if_pos hk];exact hv2)
  refine⟨c,k1,k2.down ?_⟩
  have hm:∃p∈sl,p.2=v:=by
   clear hF hlt h k1 k2
   induction sl with
   | nil=>simp[ae] at hv2
   | cons q l ih=>
    obtain⟨e,u⟩:=q
    simp only[ae] at hv2
    split at hv2
    ·simp at hv2;subst hv2;exact⟨(e,u),by simp,rfl⟩
    ·obtain⟨p,hp,e⟩:=ih (by simpa[Fr.get,hk] using hv2) hv2;exact⟨p,by simp[hp],e⟩
  obtain⟨p,hp,rfl⟩:=hm
  exact hlt p hp
 ·rw[if_neg hk] at hv2;cases hv2
theorem JK.UY(h:JK E M b cs ds [] V0 K0 σ0 w0 au todo fr σ):JK E M b cs ds T V0 K0 σ0 w0 au todo fr σ:=fun K w V a hR hO hF hS hd _=>h K w V a hR hO hF hS hd (by simp)
theorem JK.ay{kp:Nat→Bool}{tm sl sl':List (Nat×AV)}(hsl:∀p∈sl',ae sl p.1=some p.2)(h:JK E M b cs ds T V0 K0 σ0 w0 au todo ⟨kp,[],sl'⟩ σ):JK E M b cs ds T V0 K0 σ0 w0 au todo ⟨kp,tm,sl⟩ σ:=by
 intro K w V a hR hO hF hS hd hT
 refine h K w V a hR hO ⟨hF.1,fun t v hv=>?_⟩ hS hd hT
 have hv2:(if kp t=true then ae sl' t else ae [] t)=some v:=hv
 by_cases hk:kp t=true
 ·rw[if_pos hk] at hv2
  have hm:∃p∈sl',p.1=t∧p.2=v:=by
   clear hsl h hv
   induction sl' with
   | nil=>simp[ae] at hv2
   | cons q l ih=>
    obtain⟨e,u⟩:=q
    simp only[ae] at hv2
    split at hv2
    ·rename_i e';simp at hv2;subst hv2;exact⟨(e,u),by simp,e',rfl⟩
    ·obtain⟨p,hp,e⟩:=ih hv2;exact⟨p,by simp[hp],e⟩
  obtain⟨p,hp,e1,e2⟩:=hm
  have:=hsl p hp
  rw[e1,e2] at this
  exact hF.2 t v (by show(if kp t=true then ae sl t else ae tm t)=_;rw[if_pos hk];exact this)
 ·rw[if_neg hk] at hv2;cases hv2
theorem JK.makeChan{ops:Array Oper}{i:Nat}{rest:List Nat}{dst:Tmp}{ty t elem:TypeId}{sz:Operand}{pos:String}{after:Array Edge}{dir:ChanDir}{n:Nat}{inf:TypeInfo}(ho:ops[i]? = some ⟨some dst,.makeChan t sz,ty,pos,after,none⟩)(hN:dst<E.N)(hT':∀p∈T,p.1≠dst)
  (hs:aH fr sz=some (.int .i64 n)) (hu:E.P.underlying t=some (.chan dir elem)) (hi:E.P.info? elem=some inf) (hn:(n:Int)≤9223372036854775807) (hb:(inf.bytes:Int)*n≤281474976710544)
  (h:∀c K1 w1 V1,w1.heap[c]? = some (.chan n #[] false 0 0 false)→V1 c→w0.heap.size≤c→R K1 σ w1→aU M.Sh V1 K1 σ w1→aI V0 K0 σ0 w0 V1 K1 σ w1→bj K1 σ c→
   JK E M b cs ds T V1 K1 σ w1 au (.inRegion ops rest::k) (fr.put dst (.chan (some c))) σ):JK E M b cs ds T V0 K0 σ0 w0 au (.inRegion ops (i::rest)::k) fr σ:=by
 intro K w V a hR hO hF hS hd hT
 refine M.step rfl fun w₁ hr=>?_
 have hR1:=hR.rely hO hr
 have hO1:=hO.rely hr
 have hsz:a.eval sz= .int .i64 n:=(ak hF hs).bY
 obtain⟨es,hst,hes⟩:=vt (P:=E.P) (main:=M.main) (b:=b) (cs:=cs) (w:=w₁) (rest:=rest) (k:=k) (a:=a) ho hsz hu hi hn hb
 have hsize:(w₁.alloc (.chan n #[] false 0 0 false)).heap.size=w₁.heap.size+1:=by
  show(w₁.heap.push _).size=_
  simp
 have hold:∀q:Nat,q<w₁.heap.size→(w₁.alloc (.chan n #[] false 0 0 false)).heap[q]? = w₁.heap[q]? :=fun q hq=>by
  show(w₁.heap.push _)[q]? = _
  rw[Array.getElem?_push_lt hq,Array.getElem?_eq_getElem hq]
 have hnew:(w₁.alloc (.chan n #[] false 0 0 false)).heap[w₁.heap.size]? = some (.chan n #[] false 0 0 false):=by
  show(w₁.heap.push _)[_]? = _
  simp
 have hfree:bj K σ w₁.heap.size:=fun r o hr' hblk=>Nat.lt_irrefl _ ((hR1.obj r o hr').gF hblk)
 have hrel:Rel V w₁ (w₁.alloc (.chan n #[] false 0 0 false)):=⟨by rw[hsize];exact Nat.le_succ _,fun q hq _=>hold q hq,rfl,rfl,rfl⟩
 refine⟨_,_,_,hst,⟨by rw[hsize];exact Nat.le_succ _,fun q hq _=>hold q hq,rfl,rfl,rfl,Nat.le_refl _,fun e he=>(hes e he).elim⟩,?_⟩
 rw[hsize]
 have hR2:=hR1.rely hO1 hrel
 have hO2:aU M.Sh (ct V w₁.heap.size (w₁.heap.size+1)) K σ (w₁.alloc (.chan n #[] false 0 0 false)):=
  ⟨fun q hq=>⟨.inl (hO1.obj q hq).1,(hO1.obj q hq).2⟩,fun q o v hv=> .inl (hO1.stab q o v hv),fun g cs hg=> .inl (hO1.lay g cs hg),fun q hq=>by rw[hsize];exact Nat.lt_succ_of_lt (hO1.sh q hq)⟩
 have hS2:aI V K σ w₁ (ct V w₁.heap.size (w₁.heap.size+1)) K σ (w₁.alloc (.chan n #[] false 0 0 false)):=
  ⟨.refl _ _,Nat.le_refl _,by rw[hsize];exact Nat.le_succ _,fun q hq _ hf=>⟨hold q hq,hf,fun _=>rfl⟩,fun q hq=> .inl hq,fun q hq=>hq.imp id (·.1),rfl,rfl,rfl⟩
 have hS1:=hS.trans (.bN hr)
 refine h w₁.heap.size K _ _ hnew (.inr ⟨Nat.le_refl _,Nat.lt_succ_self _⟩) (Nat.le_trans hS.size hr.size) hR2 hO2 (hS1.trans hS2) hfree K _ _ _ hR2 hO2 (hF.put hN (.chan _)) (.refl _ _ _ _) ((put_defers _ _ _).trans hd) (vN (fun e he=>by cases he;exact hT') hT)
end
theorem R.merge{Sh V Vm:Nat→Prop}{K Km:Kr}{σ:List aa}{w:World}(hR:R K σ w)(hO:aU Sh V K σ w)(hag:∀b,Sh b→∀o,Km.S b o=K.S b o)(hKm:∀b o u,Km.S b o=some u→Vm b∧w.cell? ⟨b,o,Option.none⟩= some u)(hdj:∀b,V b→Vm b→Sh b) :
  ∃K',R K' σ w∧aU Sh (fun b=>V b∨Vm b) K' σ w∧Ext σ.length K K'∧Ext 0 Km K'∧(∀b,V b→∀o,K'.S b o=K.S b o)∧∀q,bj K σ q→bj K' σ q:=by
 classical
 let K':Kr:={K with S:=fun b o=>if V b then K.S b o else Km.S b o}
 have hS:∀b,V b→∀o,K'.S b o=K.S b o:=fun b hb o=>if_pos hb
 have hS':∀b,¬V b→∀o,K'.S b o=Km.S b o:=fun b hb o=>if_neg hb
 have e1:Ext σ.length K K':=⟨fun _ _=>rfl,fun _ _ _ _ h=>h,fun b o v hv=>by rw[hS b (hO.stab b o v hv)];exact hv⟩
 have e2:Ext 0 Km K':=⟨fun r hr=>absurd hr (Nat.not_lt_zero r),fun r hr=>absurd hr (Nat.not_lt_zero r),fun b o v hv=>by
  by_cases h:V b
  ·rw[hS b h,← hag b (hdj b h (hKm b o v hv).1) o];exact hv
  ·rw[hS' b h];exact hv⟩
 refine⟨K',⟨fun b o v hv=>?_,fun r o hr=>?_,fun r r' o o' b h1 h2 h3 h4=>hR.inj r r' o o' b h1 h2 h3 h4,fun g cs hg=>hR.lay g cs hg⟩,⟨fun b hb=>⟨.inl (hO.obj b hb).1,(hO.obj b hb).2⟩,fun b o v hv=>?_,fun g cs hg=> .inl (hO.lay g cs hg),hO.sh⟩,e1,e2,hS,fun q h r o hr hb=>?_⟩
 ·by_cases h:V b
  ·rw[hS b h] at hv;exact hR.stab b o v hv
  ·rw[hS' b h] at hv;exact(hKm b o v hv).2
 ·exact(hR.obj r o hr).mono (List.getElem?_eq_some_iff.1 hr).1 e1 (Nat.le_refl _) rfl fun b hb=>⟨rfl,fun o=>hS b (hO.obj b (ot hr hb)).1 o⟩
 ·by_cases h:V b
  ·exact .inl h
  ·rw[hS' b h] at hv;exact .inr (hKm b o v hv).1
 ·refine h r o hr ?_
  cases o<;> exact hb
theorem Rel.cell{V:Nat→Prop}{w w₁:World}(h:Rel V w w₁){b o:Nat}{u:Value}(hv:V b)(hc:w.cell? ⟨b,o,Option.none⟩= some u):w₁.cell? ⟨b,o,Option.none⟩= some u:=by
 have hb:b<w.heap.size:=by
  unfold World.cell? at hc
  split at hc
  ·rename_i c e f hq;exact(Array.getElem?_eq_some_iff.1 hq).1
  ·cases hc
 unfold World.cell? at hc⊢
 rw[h.keep b hb hv];exact hc
/-! ### objects at the end are looked at no more -/
def MO(n:Nat):aa→Prop
 | .cells cs=>∀c∈cs,Lt n c
 | .vec _ xs=>∀x∈xs,∀c∈x.cells,Lt n c
 | .dead=>True
 | _=>False
theorem VRs.down{K:Kr}{n n':Nat}{l:List AV}{l':List Value}(h:VRs K n' l l')(hl:∀c∈l,Lt n c):VRs K n l l':=⟨h.1,fun i h1 h2=>(h.2 i h1 h2).down (hl _ (List.getElem_mem h1))⟩
theorem eF.cut{K:Kr}{n n':Nat}{w:World}{r:Nat}{o:aa}(h:eF K n' w r o)(hl:MO n o):eF K n w r o:=by
 cases o with
 | cells cs=>
  obtain⟨cc,E,h1,h2,h3,h4⟩:=h
  exact⟨cc,E,h1,VRs.down h2 hl,h3,h4⟩
 | vec sz xs=>
  obtain⟨a,cap,h1,h2,h3,h4,h5⟩:=h
  refine⟨a,cap,h1,h2,h3,h4,fun hc=>?_⟩
  obtain⟨b,o,cc,E,g1,g2,g3,g4,g5,g6⟩:=h5 hc
  refine⟨b,o,cc,E,g1,g2,g3,VRs.down g4 fun c hcm=>?_,g5,g6⟩
  obtain⟨x,hx,hxc⟩:=List.mem_flatMap.1 hcm
  exact hl x hx c hxc
 | dead=>trivial
 | _=>exact hl.elim
section
variable {E:Env}{M:cw E.P}{b:Frame}{cs:List Frame}{ds:List Deferred}{T:List (Nat×Value)}{V0:Nat→Prop}{K0:Kr}{w0:World}{au:Goroutine→World→(Nat→Prop)→Prop}{σ junk:List aa}{todo:List Item}
theorem JK.cut{kp:Nat→Bool}{tm sl:List (Nat×AV)}(hsl:∀p∈sl,Lt σ.length p.2)(ho:∀o∈σ,MO σ.length o)(h:JK E M b cs ds T V0 K0 [] w0 au todo ⟨kp,[],sl⟩ σ):JK E M b cs ds T V0 K0 [] w0 au todo ⟨kp,tm,sl⟩ (σ++junk):=by
 intro K w V a hR hO hF hS hd hT
 have ai:∀(r:Nat) o,σ[r]? = some o→(σ++junk)[r]? = some o:=fun r o hr=>by rw[List.getElem?_append_left (List.getElem?_eq_some_iff.1 hr).1];exact hr
 have hfree:∀q,bj K (σ++junk) q→bj K σ q:=fun q hq r o hr=>hq r o (ai r o hr)
 refine h K w V a ⟨hR.stab,fun r o hr=>(hR.obj r o (ai r o hr)).cut (ho o (List.mem_of_getElem? hr)),fun r r' o o' q h1 h2=>hR.inj r r' o o' q (ai r o h1) (ai r' o' h2),fun g cs hg=>⟨(hR.lay g cs hg).1,hfree g (hR.lay g cs hg).2⟩⟩
  ⟨fun q hq=>hO.obj q fun hf=>hq (hfree q hf),hO.stab,hO.lay,hO.sh⟩ ⟨hF.1,fun t v hv=>?_⟩
  ⟨⟨fun r hr=>absurd hr (Nat.not_lt_zero r),fun r hr=>absurd hr (Nat.not_lt_zero r),hS.ext.S⟩,Nat.zero_le _,hS.size,fun q hq hv hf=>⟨(hS.keep q hq hv hf).1,hfree q (hS.keep q hq hv hf).2.1,(hS.keep q hq hv hf).2.2⟩,hS.sub,hS.new,hS.os,hS.tape,hS.output⟩ hd hT
 have hv2:(if kp t=true then ae sl t else ae [] t)=some v:=hv
 by_cases hk:kp t=true
 ·rw[if_pos hk] at hv2
  obtain⟨c,k1,k2⟩:=hF.2 t v (by show(if kp t=true then ae sl t else ae tm t)=_;rw[if_pos hk];exact hv2)
  refine⟨c,k1,k2.down ?_⟩
  have hm:∃p∈sl,p.2=v:=by
   clear hF hsl h k1 k2 hv
   induction sl with
   | nil=>simp[ae] at hv2
   | cons q l ih=>
    obtain⟨e,u⟩:=q
    simp only[ae] at hv2
    split at hv2
    ·simp at hv2;subst hv2;exact⟨(e,u),by simp,rfl⟩
    ·obtain⟨p,hp,e⟩:=ih hv2;exact⟨p,by simp[hp],e⟩
  obtain⟨p,hp,rfl⟩:=hm
  exact hsl p hp
 ·rw[if_neg hk] at hv2;cases hv2
end
theorem R.chan{K:Kr}{σ:List aa}{w:World}{Sh V:Nat→Prop}(hR:R K σ w)(hO:aU Sh V K σ w){c cap s r:Nat}{buf:Array Value}{cl tm:Bool}(hc:w.heap[c]? = some (.chan cap buf cl s r tm))(hf:bj K σ c)(o:Obj) :
  R K σ {w with heap:=w.heap.setIfInBounds c o}∧aU Sh V K σ {w with heap:=w.heap.setIfInBounds c o}:=by
 have hne:∀q p u,K.S q p=some u→q≠c:=fun q p u hu e=>by
  subst e
  have:=hR.stab q p u hu
  simp[World.cell?,hc] at this
 have hlay:∀g cs,gx g=some cs→g≠c:=fun g cs hg e=>by
  subst e
  obtain⟨⟨E,fz,h1⟩,_⟩:=hR.lay g cs hg
  rw[hc] at h1;cases h1
 have hO':aU Sh (fun q=>V q∧q≠c) K σ w:=⟨fun q hq=>⟨⟨(hO.obj q hq).1,fun e=>hq (e▸hf)⟩,(hO.obj q hq).2⟩,fun q p u hu=>⟨hO.stab q p u hu,hne q p u hu⟩,fun g cs hg=>⟨hO.lay g cs hg,hlay g cs hg⟩,hO.sh⟩
 have hrel:Rel (fun q=>V q∧q≠c) w {w with heap:=w.heap.setIfInBounds c o}:=⟨by simp,fun q hq hv=>by
  show(w.heap.setIfInBounds c o)[q]? = _
  rw[Array.getElem?_setIfInBounds_ne (Ne.symm hv.2)],rfl,rfl,rfl⟩
 exact⟨hR.rely hO' hrel,⟨hO.obj,hO.stab,hO.lay,fun q hq=>by have:=hO.sh q hq;simpa using this⟩⟩
end Go.Mu
