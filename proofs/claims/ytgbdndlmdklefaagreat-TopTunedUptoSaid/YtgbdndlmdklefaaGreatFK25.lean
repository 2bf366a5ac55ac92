/- Slices that are written into no more at a call. -/
import Derived.Test.YtgbdndlmdklefaaGreatFK15
set_option linter.unusedSimpArgs false
set_option linter.unusedVariables false
namespace Go.Mu
open Go Go.Conc
theorem R.freezeK{K:Kr}{σ:List AObj}{w:World}(hR:R K σ w)(q k:Nat){r n sz:Nat}{xs cs:List AV}(hq:hget σ q=some (.cells cs))(hk:cs[k]? = some (.vec r n))(hg:hget σ r=some (.vec sz xs))(hn:xs.length=n) :
  ∃K',R K' (hset (hset σ r .dead) q (.cells (cs.set k (.list .no sz xs)))) w∧Step K σ w K' (hset (hset σ r .dead) q (.cells (cs.set k (.list .no sz xs)))) w∧∀c,VR K σ.length (.vec r n) c→VR K' σ.length (.list .no sz xs) c:=by
 subst hn
 obtain⟨K',r1,r2,hv⟩:=hR.freeze hg
 have hne:r≠q:=fun e=>by subst e;rw[hg] at hq;cases hq
 have hq':hget (hset σ r .dead) q=some (.cells cs):=by rw[hget_ne hne];exact hq
 obtain⟨cc,T,h1,h2,h3,h4⟩:=hR.obj q _ hq
 obtain⟨cc',T',g1,g2,g3,g4⟩:=r1.obj q _ hq'
 have hφ:K'.φ q=K.φ q:=r2.ext.φ q (hget_lt hq)
 rw[hφ,h1] at g1
 simp only[Option.some.injEq,Obj.cells.injEq,and_true] at g1
 obtain⟨rfl,rfl⟩:=g1
 obtain⟨hkl,hke⟩:=List.getElem?_eq_some_iff.1 hk
 have h2':VRs K' (hset σ r .dead).length (cs.set k (.list .no sz xs)) cc.toList:=by
  rw[hsl_dead]
  rw[hsl_dead] at g2
  refine⟨by rw[List.length_set];exact h2.1,fun i h5 h6=>?_⟩
  by_cases e:k=i
  ·subst e
   rw[List.getElem_set_self]
   have:=h2.2 k hkl h6
   rw[hke] at this
   exact hv _ this
  ·rw[List.getElem_set_ne e]
   exact g2.2 i (by rw[List.length_set] at h5;exact h5) h6
 obtain⟨s1,s2⟩:=r1.turn (o':= .cells (cs.set k (.list .no sz xs))) hq' (K'.φ q) rfl K' (.refl _ _) (fun _ _=>rfl) (fun _ _=>rfl) rfl (fun _ _ _=>rfl) (fun p v hv=>r1.stab _ _ _ hv) (fun b hb=>hb) ⟨cc,T,by rw[hφ];exact h1,h2',h3,g4⟩ rfl rfl rfl
 exact⟨K',s1,r2.trans s2,hv⟩
theorem ACalls.freezeA{P:Program}{S:MC P}{f:FuncId}{σ:List AObj}{Q:AV→List AObj→Prop}(q k:Nat){r n sz:Nat}{xs cs:List AV}(hq:hget σ q=some (.cells cs))(hk:cs[k]? = some (.vec r n))(hg:hget σ r=some (.vec sz xs))(hn:xs.length=n)
  (h:ACalls S f [.agg (cs.set k (.list .no sz xs))] (hset (hset σ r .dead) q (.cells (cs.set k (.list .no sz xs)))) Q):ACalls S f [.agg cs] σ Q:=by
 refine⟨h.1,fun M hM K w V cargs kd fcs hR hO hV=>?_⟩
 obtain⟨K',r1,r2,hv⟩:=hR.freezeK q k hq hk hg hn
 have hlen:(hset (hset σ r AObj.dead) q (AObj.cells (cs.set k (.list .no sz xs)))).length=σ.length:=by simp[hset]
 obtain⟨hkl,hke⟩:=List.getElem?_eq_some_iff.1 hk
 refine M.bind (h.2 M hM K' w V cargs kd fcs r1 (hO.mind hR r1 r2) ?_) fun g' w' V' ⟨fr,v,σ',K2,h1,h2,h3,h4,h5,h6,h7,h8⟩=>M.ret ⟨fr,v,σ',K2,h1,h2,h3,h4,h5,h6,h7,(StepV.of_mind r2).trans h8⟩
 rw[hlen]
 refine⟨hV.1,fun i h1 h2=>?_⟩
 have h0:i=0:=by simpa using h1
 subst h0
 have hv0:=hV.2 0 (by simp) h2
 simp only[List.getElem_cons_zero] at hv0⊢
 generalize cargs.toList[0]=c0 at hv0
 cases hv0 with
 | agg _ cs' hl h1' hh=>
  refine .agg _ cs' (by rw[List.length_set];exact hl) h1' fun i h5 h6=>?_
  have h7:i<cs.length:=by rw[List.length_set] at h5;exact h5
  by_cases e:k=i
  ·subst e
   rw[List.getElem_set_self]
   have:=hh k hkl h6
   rw[hke] at this
   exact hv _ this
  ·rw[List.getElem_set_ne e]
   exact(hh i h7 h6).mono r2.ext (Nat.le_refl _)
end Go.Mu
