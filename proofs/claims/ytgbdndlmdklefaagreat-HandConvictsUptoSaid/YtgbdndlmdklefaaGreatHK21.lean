/- A call that looks at none of the caller's objects leaves them as they were. -/
import Derived.Test.YtgbdndlmdklefaaGreatHK16
import Derived.Test.YtgbdndlmdklefaaGreatHK10
set_option linter.unusedSimpArgs false
set_option linter.unusedVariables false
namespace Go.Mu
open Go Go.Conc
theorem ao.aside{P:Program}{S:MC P}{f:FuncId}{args:List AV}{σ:List aa}{X:AV→Prop}(hp:∀a∈args,Plain a)(h:ao S f args [] fun v _=>Plain v∧X v):ao S f args σ fun v σ'=>σ'=σ∧X v:=by
 refine⟨h.1,fun M hM K w V cargs kd cs hR hO hV=>?_⟩
 have hV0:VRs K 0 args cargs.toList:=VRs.down hV fun a ha=>hp a ha 0
 refine M.bind (h.2 M hM K w V cargs kd cs hR.none hO.none hV0) ?_
 rintro g' w' V' ⟨fr,v,σ1,K1,e1,e2,e3,hl,⟨hpl,hx⟩,hR',hO',hS⟩
 let K2:Kr:={φ:=K.φ,tl:=K.tl,S:=K1.S}
 have hext:Ext σ.length K K2:=⟨fun _ _=>rfl,fun _ _ _ _ h=>h,fun b o v hv=>hS.ext.S b o v hv⟩
 have hfree:∀b,bj K σ b→bj K2 σ b:=fun b hb r o hr hblk=>hb r o hr (by cases o<;> exact hblk)
 have hfree':∀b,bj K2 σ b→bj K σ b:=fun b hb r o hr hblk=>hb r o hr (by cases o<;> exact hblk)
 have hobj:∀b,¬bj K σ b→w'.heap[b]? = w.heap[b]?∧∀o,K2.S b o=K.S b o:=fun b hb=>by
  obtain⟨h1,_,h3⟩:=hS.keep b (hR.tY hb) (hO.obj b hb).1 bj.none
  exact⟨h1,h3⟩
 refine M.ret ⟨fr,v,σ,K2,e1,e2,e3,hl.mono fun c hc=>((hc.down (hpl 0)).mono (K':=K2) ⟨fun r hr=>absurd hr (Nat.not_lt_zero r),fun r hr=>absurd hr (Nat.not_lt_zero r),fun b o v hv=>hv⟩ (Nat.zero_le _)),⟨rfl,hx⟩,?_,?_,?_⟩
 ·refine⟨hR'.stab,fun r o hr=>(hR.obj r o hr).mono (List.getElem?_eq_some_iff.1 hr).1 hext (Nat.le_refl _) rfl fun b hb=>hobj b (ot hr hb),fun r r' o o' b h1 h2 h3 h4=>hR.inj r r' o o' b h1 h2 (by cases o<;> exact h3) (by cases o'<;> exact h4),fun g cs hg=>⟨(hR'.lay g cs hg).1,hfree g (hR.lay g cs hg).2⟩⟩
 ·exact⟨fun b hb=>⟨hS.sub b (hO.obj b fun hf=>hb (hfree b hf)).1,(hO.obj b fun hf=>hb (hfree b hf)).2⟩,hO'.stab,hO'.lay,hO'.sh⟩
 ·exact⟨hext,Nat.le_refl _,hS.size,fun b hb hv hf=>⟨(hS.keep b hb hv bj.none).1,hfree b hf,(hS.keep b hb hv bj.none).2.2⟩,hS.sub,hS.new,hS.os,hS.tape,hS.output⟩
end Go.Mu
