/- How a goroutine runs, alone or in company: the world turns ahead of each step by what the others do. -/
import Derived.Test.YtgbdndlmdklefaaGreatHK04
import Derived.Test.YtgbdndlmdklefaaGreatHK05
import Derived.Conc.Own
import Derived.Conc.Listed
set_option linter.unusedSimpArgs false
set_option linter.unusedVariables false
namespace Go.Mu
open Go Go.Conc
structure Rel(V:Nat→Prop)(w w₁:World):Prop where
 size:w.heap.size≤w₁.heap.size
 keep:∀b:Nat,b<w.heap.size→V b→w₁.heap[b]? = w.heap[b]?
 os:w₁.os=w.os
 tape:w₁.tape=w.tape
 output:w₁.output=w.output
theorem Rel.refl(V:Nat→Prop)(w:World):Rel V w w:=⟨Nat.le_refl _,fun _ _ _=>rfl,rfl,rfl,rfl⟩
theorem Rel.trans{V:Nat→Prop}{w w₁ w₂:World}(h:Rel V w w₁)(h':Rel V w₁ w₂):Rel V w w₂:=
 ⟨Nat.le_trans h.size h'.size,fun b hb hv=>(h'.keep b (Nat.lt_of_lt_of_le hb h.size) hv).trans (h.keep b hb hv),h'.os.trans h.os,h'.tape.trans h.tape,h'.output.trans h.output⟩
def ct(V:Nat→Prop)(n m:Nat):Nat→Prop:=fun b=>V b∨(n≤b∧b<m)
theorem bk{V:Nat→Prop}{n:Nat}:ct V n n=V:=by
 funext b;apply propext
 exact⟨fun h=>h.elim id fun g=>by omega,.inl⟩
structure Gua(Sh V:Nat→Prop)(w w':World)(es:Array Event):Prop where
 size:w.heap.size≤w'.heap.size
 keep:∀b:Nat,b<w.heap.size→(¬V b∨Sh b)→w'.heap[b]? = w.heap[b]?
 os:w'.os=w.os
 tape:w'.tape=w.tape
 output:w'.output=w.output
 dr:w.drawn≤w'.drawn
 evs:∀e∈es,jw w.heap.size (fun b=>V b∧¬Sh b) V w'.heap.size e
theorem Gua.idle(Sh V:Nat→Prop)(w:World):Gua Sh V w w #[]:=⟨Nat.le_refl _,fun _ _ _=>rfl,rfl,rfl,rfl,Nat.le_refl _,fun e he=>by simp at he⟩
theorem Gua.drew(Sh V:Nat→Prop)(w:World):Gua Sh V w {w with drawn:=w.drawn+1} #[]:=⟨Nat.le_refl _,fun _ _ _=>rfl,rfl,rfl,rfl,Nat.le_add_right _ _,fun e he=>by simp at he⟩
structure cw(P:Program) where
 main:Bool
 Sh:Nat→Prop
 J:Goroutine→World→(Nat→Prop)→(Goroutine→World→(Nat→Prop)→Prop)→Prop
 ret:∀{g w V au},au g w V→J g w V au
 bind:∀{g w V au Post'},J g w V au→(∀g' w' V',au g' w' V'→J g' w' V' Post')→J g w V Post'
 step:∀{g w V au},g.status= .running→(∀w₁,Rel V w w₁→∃g' w' es,stepG P main g w₁= .go g' w' es∧Gua Sh V w₁ w' es∧J g' w' (ct V w₁.heap.size w'.heap.size) au)→J g w V au
abbrev MC(P:Program):=cw P→Prop
structure aU(Sh V:Nat→Prop)(K:Kr)(σ:List aa)(w:World):Prop where
 obj:∀b,¬bj K σ b→V b∧¬Sh b
 stab:∀b o v,K.S b o=some v→V b
 lay:∀g cs,gx g=some cs→V g
 sh:∀b,Sh b→b<w.heap.size
variable {Sh V V' V'':Nat→Prop}{K K' K'':Kr}{σ σ' σ'':List aa}{w w₁ w' w'':World}
theorem ot{r:Nat}{o:aa}{b:Nat}(h1:σ[r]? = some o)(h2:cC K r o b):¬bj K σ b:=fun h=>h r o h1 h2
theorem R.nC(h:R K σ w){b o:Nat}{v:Value}(hv:K.S b o=some v):b<w.heap.size:=by
 have:=h.stab b o v hv
 unfold World.cell? at this
 split at this
 ·rename_i c e f hc;exact(Array.getElem?_eq_some_iff.1 hc).1
 ·cases this
theorem R.tY(h:R K σ w){b:Nat}(hb:¬bj K σ b):b<w.heap.size:=by
 apply Classical.byContradiction
 intro hn
 exact hb fun r o hr hblk=>hn ((h.obj r o hr).gF hblk)
theorem R.same(h:R K σ w)(hs:∀b o v,K.S b o=some v→w₁.cell? ⟨b,o,none⟩= w.cell? ⟨b,o,none⟩)(ho:∀b,¬bj K σ b→w₁.heap[b]? = w.heap[b]?)(hl:∀g cs,gx g=some cs→∃E fz,w₁.heap[g]? = some (.cells cs E fz)):R K σ w₁:=
 ⟨fun b o v hv=>by rw[hs b o v hv];exact h.stab b o v hv,
  fun r o hr=>(h.obj r o hr).mono (List.getElem?_eq_some_iff.1 hr).1 (.refl _ _) (Nat.le_refl _) rfl fun b hb=>⟨ho b (ot hr hb),fun _=>rfl⟩,
  h.inj,fun g cs hg=>⟨hl g cs hg,(h.lay g cs hg).2⟩⟩
theorem R.rely(h:R K σ w)(hO:aU Sh V K σ w)(hr:Rel V w w₁):R K σ w₁:=
 h.same (fun b o v hv=>by
   have:=hr.keep b (h.nC hv) (hO.stab b o v hv)
   unfold World.cell?;rw[this])
  (fun b hb=>hr.keep b (h.tY hb) (hO.obj b hb).1)
  (fun g cs hg=>by
   obtain⟨⟨E,fz,h1⟩,_⟩:=h.lay g cs hg
   exact⟨E,fz,by rw[hr.keep g (Array.getElem?_eq_some_iff.1 h1).1 (hO.lay g cs hg)];exact h1⟩)
theorem aU.rely(hO:aU Sh V K σ w)(hr:Rel V w w₁):aU Sh V K σ w₁:=⟨hO.obj,hO.stab,hO.lay,fun b hb=>Nat.lt_of_lt_of_le (hO.sh b hb) hr.size⟩
structure aI(V:Nat→Prop)(K:Kr)(σ:List aa)(w:World)(V':Nat→Prop)(K':Kr)(σ':List aa)(w':World):Prop where
 ext:Ext σ.length K K'
 len:σ.length≤σ'.length
 size:w.heap.size≤w'.heap.size
 keep:∀b:Nat,b<w.heap.size→V b→bj K σ b→w'.heap[b]? = w.heap[b]?∧bj K' σ' b∧∀o,K'.S b o=K.S b o
 sub:∀b,V b→V' b
 new:∀b,V' b→V b∨w.heap.size≤b
 os:w'.os=w.os
 tape:w'.tape=w.tape
 output:w'.output=w.output
theorem aI.refl(V:Nat→Prop)(K:Kr)(σ:List aa)(w:World):aI V K σ w V K σ w:=
 ⟨.refl _ _,Nat.le_refl _,Nat.le_refl _,fun b _ _ hf=>⟨rfl,hf,fun _=>rfl⟩,fun _ h=>h,fun _ h=> .inl h,rfl,rfl,rfl⟩
theorem aI.trans(h:aI V K σ w V' K' σ' w')(h':aI V' K' σ' w' V'' K'' σ'' w''):aI V K σ w V'' K'' σ'' w'':=
 ⟨h.ext.trans h'.ext h.len,Nat.le_trans h.len h'.len,Nat.le_trans h.size h'.size,fun b hb hv hf=>by
  obtain⟨h1,h2,h3⟩:=h.keep b hb hv hf
  obtain⟨g1,g2,g3⟩:=h'.keep b (Nat.lt_of_lt_of_le hb h.size) (h.sub b hv) h2
  exact⟨g1.trans h1,g2,fun o=>(g3 o).trans (h3 o)⟩,fun b hb=>h'.sub b (h.sub b hb),fun b hb=>(h'.new b hb).elim (h.new b) (fun g=> .inr (Nat.le_trans h.size g)),h'.os.trans h.os,h'.tape.trans h.tape,h'.output.trans h.output⟩
theorem aI.bN(hr:Rel V w w₁):aI V K σ w V K σ w₁:=
 ⟨.refl _ _,Nat.le_refl _,hr.size,fun b hb hv hf=>⟨hr.keep b hb hv,hf,fun _=>rfl⟩,fun _ h=>h,fun _ h=> .inl h,hr.os,hr.tape,hr.output⟩
theorem aI.mY(h:Step K σ w K' σ' w'):aI V K σ w (ct V w.heap.size w'.heap.size) K' σ' w':=
 ⟨h.ext,h.len,h.size,fun b hb _ hf=>h.keep b hb hf,fun b hb=> .inl hb,fun b hb=>hb.imp id (·.1),h.os,h.tape,h.output⟩
theorem aI.ng(h:Step K σ w K' σ' w):aI V K σ w V K' σ' w:=
 ⟨h.ext,h.len,h.size,fun b hb _ hf=>h.keep b hb hf,fun b hb=>hb,fun b hb=> .inl hb,h.os,h.tape,h.output⟩
theorem aU.step(hO:aU Sh V K σ w)(hR':R K' σ' w')(h:Step K σ w K' σ' w'):aU Sh (ct V w.heap.size w'.heap.size) K' σ' w':=by
 refine⟨fun b hb=>?_,fun b o v hv=>?_,fun g cs hg=> .inl (hO.lay g cs hg),fun b hb=>Nat.lt_of_lt_of_le (hO.sh b hb) h.size⟩
 ·rcases Nat.lt_or_ge b w.heap.size with hlt | hge
  ·by_cases hf:bj K σ b
   ·exact absurd (h.keep b hlt hf).2.1 hb
   ·exact⟨.inl (hO.obj b hf).1,(hO.obj b hf).2⟩
  ·exact⟨.inr ⟨hge,hR'.tY hb⟩,fun hs=>by have:=hO.sh b hs;omega⟩
 ·rcases Nat.lt_or_ge b w.heap.size with hlt | hge
  ·by_cases hf:bj K σ b
   ·exact .inl (hO.stab b o v (by rw[← (h.keep b hlt hf).2.2 o];exact hv))
   ·exact .inl (hO.obj b hf).1
  ·exact .inr ⟨hge,hR'.nC hv⟩
theorem aU.iK(hO:aU Sh V K σ w)(hR:R K σ w)(hR':R K' σ' w)(h:Step K σ w K' σ' w):aU Sh V K' σ' w:=by
 have:=hO.step hR' h
 have hn:∀b,ct V w.heap.size w.heap.size b→V b:=fun b hb=>hb.elim id fun g=>by omega
 exact⟨fun b hb=>⟨hn b (this.obj b hb).1,(this.obj b hb).2⟩,fun b o v hv=>hn b (this.stab b o v hv),fun g cs hg=>hn g (this.lay g cs hg),this.sh⟩
/-! ### what a safe operation touches -/
noncomputable def gi (K:Kr) (σ:List aa) (w:World):World:=
 {w with heap:=Array.ofFn fun(i:Fin w.heap.size)=>open Classical in
     if¬bj K σ i then w.heap[i]
   else if(∃o v,K.S i o=some v)∨(gx i).isSome then match w.heap[i] with
    | .cells c T _=> .cells c T (0,c.size)
    | _=> .cells #[] 0 (0,0)
   else .cells #[] 0 (0,0)}
theorem mK:(gi K σ w).heap.size=w.heap.size:=by simp[gi]
theorem pG{b:Nat}(hb:b<w.heap.size):(gi K σ w).heap[b]? = some (open Classical in
   if¬bj K σ b then w.heap[b]
   else if(∃o v,K.S b o=some v)∨(gx b).isSome then match w.heap[b] with
    | .cells c T _=> .cells c T (0,c.size)
    | _=> .cells #[] 0 (0,0)
   else .cells #[] 0 (0,0)):=by
 simp only[gi]
 rw[Array.getElem?_eq_getElem (by simp;exact hb)]
 simp only[Array.getElem_ofFn]
 rfl
theorem kM{b:Nat}(hb:b<w.heap.size)(hf:¬bj K σ b):(gi K σ w).heap[b]? = w.heap[b]? :=by
 rw[pG hb,if_pos hf,Array.getElem?_eq_getElem hb]
theorem kr{b:Nat}{c:Array Value}{T:TypeId}{fz:Nat×Nat}(hc:w.heap[b]? = some (.cells c T fz))(hf:bj K σ b)(hr:(∃o v,K.S b o=some v)∨(gx b).isSome):(gi K σ w).heap[b]? = some (.cells c T (0,c.size)):=by
 obtain⟨hb,h2⟩:=Array.getElem?_eq_some_iff.1 hc
 rw[pG hb,if_neg (by simpa using hf),if_pos hr,h2]
theorem tH{b:Nat}(hb:b<w.heap.size)(hf:bj K σ b)(hr:¬((∃o v,K.S b o=some v)∨(gx b).isSome)):(gi K σ w).heap[b]? = some (.cells #[] 0 (0,0)):=by
 rw[pG hb,if_neg (by simpa using hf),if_neg hr]
theorem kI(hR:R K σ w){b:Nat}(hr:(∃o v,K.S b o=some v)∨(gx b).isSome):∃c T fz,w.heap[b]? = some (.cells c T fz):=by
 rcases hr with⟨o,v,hv⟩ | hl
 ·have:=hR.stab b o v hv
  unfold World.cell? at this
  split at this
  ·rename_i c e f hc;exact⟨c,e,f,hc⟩
  ·cases this
 ·obtain⟨cs,hg⟩:=Option.isSome_iff_exists.1 hl
  obtain⟨⟨E,fz,h1⟩,_⟩:=hR.lay b cs hg
  exact⟨_,_,_,h1⟩
theorem w9{n r:Nat}{o:aa}{b:Nat}(h:eF K n w r o)(hb:cC K r o b):∃ob,w.heap[b]? = some ob∧jG ob=true:=by
 cases o with
 | cells cs=>
  obtain⟨cc,E,h1,_⟩:=h
  have:b=K.φ r:=hb
  exact⟨_,by rw[this];exact h1,rfl⟩
 | tail m sz=>
  obtain⟨a,cap,h1,h2,_,h3⟩:=h
  obtain⟨a',cap',g1,g2,g3⟩:=hb
  rw[h1] at g1;simp only[Option.some.injEq,Prod.mk.injEq] at g1
  obtain⟨rfl,rfl⟩:=g1
  obtain⟨b',o,cc,E,k1,k2,_⟩:=h3 g2
  simp only[Option.some.injEq] at k1
  subst k1
  exact⟨_,by rw[← g3];exact k2,rfl⟩
 | map es=>
  obtain⟨es',clock,h1,_⟩:=h
  have:b=K.φ r:=hb
  exact⟨_,by rw[this];exact h1,rfl⟩
 | iter m c s=>
  obtain⟨m',h1,_⟩:=h
  have:b=K.φ r:=hb
  exact⟨_,by rw[this];exact h1,rfl⟩
 | siter s p=>
  have:b=K.φ r:=hb
  exact⟨_,by rw[this];exact h,rfl⟩
 | loop st pend fn params assign body N fr=>
  obtain⟨l,h1,_⟩:=h
  have:b=K.φ r:=hb
  exact⟨_,by rw[this];exact h1,rfl⟩
 | vec sz xs=>
  obtain⟨a,cap,h1,h2,_,_,h3⟩:=h
  obtain⟨a',cap',g1,g2,g3⟩:=hb
  rw[h1] at g1;simp only[Option.some.injEq,Prod.mk.injEq] at g1
  obtain⟨rfl,rfl⟩:=g1
  obtain⟨b',o,cc,E,k1,k2,_⟩:=h3 g2
  simp only[Option.some.injEq] at k1
  subst k1
  exact⟨_,by rw[← g3];exact k2,rfl⟩
 | dead=>exact hb.elim
theorem R.gi(hR:R K σ w):R K σ (gi K σ w):=by
 refine hR.same (fun b o v hv=>?_) (fun b hb=>kM (hR.tY hb) hb) (fun g cs hg=>?_)
 ·by_cases hf:bj K σ b
  ·obtain⟨c,T,fz,hc⟩:=kI hR (.inl ⟨o,v,hv⟩)
   unfold World.cell?
   rw[kr hc hf (.inl ⟨o,v,hv⟩),hc]
  ·unfold World.cell?
   rw[kM (hR.nC hv) hf]
 ·obtain⟨⟨E,fz,h1⟩,h2⟩:=hR.lay g cs hg
  exact⟨_,_,kr h1 h2 (.inr (by rw[hg];rfl))⟩
theorem Ay(hR:R K σ w):fX w.heap.size (fun b=>¬bj K σ b) (fun b=>(∃o v,K.S b o=some v)∨(gx b).isSome) (gi K σ w) w:=by
 refine⟨mK,Nat.le_refl _,fun b hb=>?_,fun b hb=>?_,fun b o hbo=>?_,rfl,rfl,rfl⟩
 ·rw[Array.getElem?_eq_none (by rw[mK];exact hb),Array.getElem?_eq_none hb]
 ·by_cases hf:bj K σ b
  ·by_cases hr:(∃o v,K.S b o=some v)∨(gx b).isSome
   ·obtain⟨c,T,fz,hc⟩:=kI hR hr
    exact .inr (.inl ⟨hr,c,T,fz,hc,kr hc hf hr⟩)
   ·exact .inr (.inr (tH hb hf hr))
  ·exact .inl ⟨hf,kM hb hf⟩
 ·have hb:b<w.heap.size:=by rw[← mK (K:=K) (σ:=σ)];exact(Array.getElem?_eq_some_iff.1 hbo).1
  by_cases hf:bj K σ b
  ·by_cases hr:(∃o v,K.S b o=some v)∨(gx b).isSome
   ·obtain⟨c,T,fz,hc⟩:=kI hR hr
    rw[kr hc hf hr] at hbo
    simp only[Option.some.injEq] at hbo;subst hbo;rfl
   ·rw[tH hb hf hr] at hbo
    simp only[Option.some.injEq] at hbo;subst hbo;rfl
  ·have:∃r o',σ[r]? = some o'∧cC K r o' b:=by
    apply Classical.byContradiction
    intro hn
    exact hf fun r o' h1 h2=>hn ⟨r,o',h1,h2⟩
   obtain⟨r,o',h1,h2⟩:=this
   obtain⟨ob,g1,g2⟩:=w9 (hR.obj r o' h1) h2
   rw[kM hb hf,g1] at hbo
   simp only[Option.some.injEq] at hbo;subst hbo;exact g2
theorem jw.Vs{n t:Nat}{A A' B B':Nat→Prop}{e:Event}(h:jw n A B t e)(hA:∀b,A b→A' b)(hB:∀b,B b→B' b):jw n A' B' t e:=by
 unfold jw at *
 split at h
 ·exact⟨h.1,h.2.1,h.2.2.elim .inl fun h=> .inr (h.elim (fun h=> .inl (hA _ h)) fun h=> .inr ⟨hB _ h.1,h.2⟩)⟩
 ·exact⟨h.1,h.2.1,h.2.2.imp id (hA _)⟩
 ·exact h
 ·exact h
theorem qb{P:Program}{α:Type}{s:Sem α}{Φ:α→Prop}(hT:Tm P s Φ)(hR:R K σ w)(hO:aU Sh V K σ w)(hs:∀w₀,R K σ w₀→∃x w₀',s.run P w₀= .ok x w₀')
  {x:α} (hx:s.run P w= .ok x w') (hst:Step K σ w K' σ' w') {es:Array Event} (he:∀e∈es,e∈s.events P w #[]):Gua Sh V w w' es:=by
 obtain⟨x₀,w₀',h₀⟩:=hs _ hR.gi
 obtain⟨w2,g1,_,_,_,g5⟩:=hT.local (Ay hR) h₀
 rw[hx] at g1
 simp only[Result.ok.injEq] at g1
 obtain⟨rfl,rfl⟩:=g1
 refine⟨hst.size,fun b hb hv=>?_,hst.os,hst.tape,hst.output,hst.dr,fun e hm=>?_⟩
 ·have hf:bj K σ b:=by
   apply Classical.byContradiction
   intro hn
   have:=hO.obj b hn
   exact hv.elim (fun h=>h this.1) (fun h=>this.2 h)
  exact(hst.keep b hb hf).1
 ·rcases g5 #[] e (he e hm) with h | h
  ·simp at h
  ·refine h.Vs (fun b hb=>hO.obj b hb) (fun b hb=>?_)
   rcases hb with⟨o,v,hv⟩ | hl
   ·exact hO.stab b o v hv
   ·obtain⟨cs,hg⟩:=Option.isSome_iff_exists.1 hl
    exact hO.lay b cs hg
end Go.Mu
namespace Go.Mu
open Go Go.Conc
structure aW(P:Program)(f:FuncId):Prop where
 fn:∃fn,P.funcs[f]? = some fn∧(fn.name== "runtime.NumGoroutine")=false∧fn.body.isNone=false
theorem aW.run{P:Program}{f:FuncId}(h:aW P f)(args:Array Value)(w:World):(callFunc f args).run P w= .ok (.enter f args) w:=by
 obtain⟨fn,h1,h2,h3⟩:=h.fn
 have h2':¬fn.name= "runtime.NumGoroutine" :=by simpa using h2
 have h3':¬fn.body=none:=fun e=>by rw[e] at h3;cases h3
 simp[callFunc,program,Sem.run,h1,h2',h3']
theorem aW.tm{P:Program}{f:FuncId}(h:aW P f)(args:Array Value):Tm P (callFunc f args) Any:=by
 obtain⟨fn,h1,h2,h3⟩:=h.fn
 unfold callFunc
 refine ab (dp ?_)
 simp only[h1,h2,h3,Bool.false_eq_true,if_false]
 trivial
structure lj{P:Program}(M:cw P)(V:Nat→Prop)(fr:Frame)(w:World)(X:Value→Prop):Prop where
 mode:fr.mode= .returning
 defers:fr.defers=[]
 fn:∃fn,P.funcs[fr.fn]? = some fn∧∀w₁,Rel V w w₁→∃v,(results fn fr.tmps).run P w₁= .ok v w₁∧X v∧∀e∈(results fn fr.tmps).events P w₁ #[],jw w₁.heap.size (fun b=>V b∧¬M.Sh b) V w₁.heap.size e
theorem lj.mono{P:Program}{M:cw P}{V:Nat→Prop}{fr:Frame}{w:World}{X Y:Value→Prop}(h:lj M V fr w X)(hx:∀v,X v→Y v):lj M V fr w Y:=
 ⟨h.mode,h.defers,let⟨fn,h1,h2⟩:=h.fn;⟨fn,h1,fun w₁ hr=>let⟨v,h3,h4,h5⟩:=h2 w₁ hr;⟨v,h3,hx v h4,h5⟩⟩⟩
def nz{P:Program}(M:cw P)(f:FuncId)(args:List AV)(σ:List aa)(Q:AV→List aa→Prop):Prop:=
 ∀(K:Kr) (w:World) (V:Nat→Prop) (cargs:Array Value) (kd:CallKind) (cs:List Frame),R K σ w→aU M.Sh V K σ w→VRs K σ.length args cargs.toList→
  M.J (G (Frame.enter P f cargs kd) cs) w V fun g' w' V'=>∃fr v σ' K',g'=G fr cs∧fr.fn=f∧fr.kind=kd∧lj M V' fr w' (VR K' σ'.length v)∧Q v σ'∧R K' σ' w'∧aU M.Sh V' K' σ' w'∧aI V K σ w V' K' σ' w'
def ao{P:Program}(S:MC P)(f:FuncId)(args:List AV)(σ:List aa)(Q:AV→List aa→Prop):Prop:=
 aW P f∧∀M,S M→nz M f args σ Q
theorem nz.mono{P:Program}{M:cw P}{f:FuncId}{args:List AV}{σ:List aa}{Q Q':AV→List aa→Prop}(h:nz M f args σ Q)(hq:∀v σ',Q v σ'→Q' v σ'):nz M f args σ Q':=
 fun K w V cargs kd cs hR hO hA=>M.bind (h K w V cargs kd cs hR hO hA) fun g' w' V' ⟨fr,v,σ',K',h1,h2,h3,h4,h5,h6⟩=>M.ret ⟨fr,v,σ',K',h1,h2,h3,h4,hq _ _ h5,h6⟩
theorem ao.mono{P:Program}{S:MC P}{f:FuncId}{args:List AV}{σ:List aa}{Q Q':AV→List aa→Prop}(h:ao S f args σ Q)(hq:∀v σ',Q v σ'→Q' v σ'):ao S f args σ Q':=
 ⟨h.1,fun M hM=>(h.2 M hM).mono hq⟩
def al{P:Program}(S:MC P)(f:FuncId)(args:List AV)(v:AV):Prop:=∀(σ:List aa) (Q:AV→List aa→Prop),Q v σ→ao S f args σ Q
structure Env where
 P:Program
 S:MC P
 ty:Nat→TI
 N:Nat
 mt:TypeId→String→Option FuncId
 ord:Nat→List Nat×List (Nat×List Nat)
 fs:FuncId→List AV→Option AV:=fun _ _=>none
structure cm(E:Env):Prop where
 ty:b9 E.P E.ty
 eq:oN E.P E.ty
 mt:∀t s f,E.mt t s=some f→∀c w,(method (E.P.types.size+Made.depth) t c s).run E.P w= .ok (f,c) w
 mtT:∀t s f,E.mt t s=some f→∀c,Tm E.P (method (E.P.types.size+Made.depth) t c s) fun r=>r.1=f
 mixed:E.P.follows .mixedOrders=true
 fs:∀f as v,E.fs f as=some v→al E.S f as v
def mark(r:Nat):Deferred:={target:= .collected r,args:=#[]}
structure Marks(Sh V:Nat→Prop)(K:Kr)(σ:List aa)(w:World)(B:Nat)(ms:List Nat):Prop where
 nodup:ms.Nodup
 lo:∀r∈ms,B≤r
 heap:∀r∈ms,w.heap[r]? = some (.deferred (some []))
 free:∀r∈ms,bj K σ r
 own:∀r∈ms,V r∧¬Sh r
inductive Leaves:List Item→Option Code→Prop
 | nil:Leaves [] none
 | ret (k:List Item):Leaves (.code .ret::k) (some .ret)
 | exit (id:Nat) (k:List Item) (h:exitTo id k=none):Leaves (.code (.exit id)::k) (some (.exit id))
def uN(ro:Option Nat)(K:Kr)(n:Nat)(b:Frame):Prop:=match ro with
 | none=>b.roundOf=none
 | some r=>r<n∧b.roundOf=some (K.φ r)∧b.kind= .normal
theorem uN.mono{ro:Option Nat}{K K':Kr}{n n':Nat}{b:Frame}(h:uN ro K n b)(he:Ext n K K')(hn:n≤n'):uN ro K' n' b:=by
 cases ro with
 | none=>exact h
 | some r=>exact⟨by have:=h.1;omega,by rw[he.φ r h.1];exact h.2.1,h.2.2⟩
def ju{P:Program}(M:cw P)(N:Nat)(Q:Option Code→Fr→List aa→Prop)(K:Kr)(σ:List aa)(w:World)(V:Nat→Prop)(ds:List Deferred)(b:Frame)(cs:List Frame)(g':Goroutine)(w':World)(V':Nat→Prop):Prop:=
 ∃K' σ' fr' a' todo' j ms,g'=G (b.atR a' todo') cs∧Leaves todo' j∧Q j fr' σ'∧R K' σ' w'∧aU M.Sh V' K' σ' w'∧FR K' σ'.length N fr' a'.tmps∧aI V K σ w V' K' σ' w'∧
  a'.defers=ms.map mark++ds∧Marks M.Sh V' K' σ' w' w.heap.size ms
theorem ju.before{P:Program}{M:cw P}{N:Nat}{Q:Option Code→Fr→List aa→Prop}{K K1:Kr}{σ σ1:List aa}{w w1:World}{V V1:Nat→Prop}{ds:List Deferred}{b:Frame}{cs:List Frame}{g':Goroutine}{w':World}{V':Nat→Prop}
  (h:ju M N Q K1 σ1 w1 V1 ds b cs g' w' V') (hs:aI V K σ w V1 K1 σ1 w1):ju M N Q K σ w V ds b cs g' w' V':=
 let⟨K',σ',fr',a',todo',j,ms,h1,h2,h3,h4,h5,h6,h7,h8,h9⟩:=h
 ⟨K',σ',fr',a',todo',j,ms,h1,h2,h3,h4,h5,h6,hs.trans h7,h8,h9.nodup,fun r hr=>Nat.le_trans hs.size (h9.lo r hr),h9.heap,h9.free,h9.own⟩
def My(E:Env)(M:cw E.P)(ro:Option Nat)(todo:List Item)(fr:Fr)(σ:List aa)(Q:Option Code→Fr→List aa→Prop):Prop:=
 ∀(K:Kr) (w:World) (V:Nat→Prop) (a:Act) (b:Frame) (cs:List Frame),uN ro K σ.length b→R K σ w→aU M.Sh V K σ w→FR K σ.length E.N fr a.tmps→
  M.J (G (b.atR a todo) cs) w V (ju M E.N Q K σ w V a.defers b cs)
def aj(E:Env)(ro:Option Nat)(todo:List Item)(fr:Fr)(σ:List aa)(Q:Option Code→Fr→List aa→Prop):Prop:=∀M,E.S M→My E M ro todo fr σ Q
theorem aj.mono{E:Env}{ro:Option Nat}{todo:List Item}{fr:Fr}{σ:List aa}{Q Q':Option Code→Fr→List aa→Prop}(h:aj E ro todo fr σ Q)(hq:∀j fr σ,Q j fr σ→Q' j fr σ):aj E ro todo fr σ Q':=
 fun M hM K w V a b cs hb hR hO hF=>M.bind (h M hM K w V a b cs hb hR hO hF) fun g' w' V' ⟨K',σ',fr',a',todo',j,ms,h1,h2,h3,h4⟩=>M.ret ⟨K',σ',fr',a',todo',j,ms,h1,h2,hq _ _ _ h3,h4⟩
variable {E:Env}{ro:Option Nat}{k:List Item}{fr:Fr}{σ:List aa}{Q:Option Code→Fr→List aa→Prop}
theorem Marks.nil{Sh V:Nat→Prop}{K:Kr}{w:World}{B:Nat}:Marks Sh V K σ w B []:=⟨List.nodup_nil,by simp,by simp,by simp,by simp⟩
theorem aj.go{M:cw E.P}{todo:List Item}(h:My E M ro todo fr σ Q){K K0:Kr}{w w0:World}{V V0:Nat→Prop}{σ0:List aa}{a:Act}{b:Frame}{cs:List Frame}{ds:List Deferred}(hb:uN ro K σ.length b)(hR:R K σ w)(hO:aU M.Sh V K σ w)(hF:FR K σ.length E.N fr a.tmps)
  (hs:aI V0 K0 σ0 w0 V K σ w) (hd:a.defers=ds):M.J (G (b.atR a todo) cs) w V (ju M E.N Q K0 σ0 w0 V0 ds b cs):=by
 subst hd
 exact M.bind (h K w V a b cs hb hR hO hF) fun g' w' V' h'=>M.ret (h'.before hs)
theorem aj.step{todo todo':List Item}(h:aj E ro todo' fr σ Q)
  (hs:∀(a:Act) (b:Frame) (cs:List Frame) (w:World) K (main:Bool),uN ro K σ.length b→R K σ w→FR K σ.length E.N fr a.tmps→stepG E.P main (G (b.atR a todo) cs) w= .go (G (b.atR a todo') cs) w):aj E ro todo fr σ Q:=by
 intro M hM K w V a b cs hb hR hO hF
 refine M.step rfl fun w₁ hr=>⟨_,_,_,hs a b cs w₁ K M.main hb (hR.rely hO hr) hF,.idle _ _ _,?_⟩
 have hn:ct V w₁.heap.size w₁.heap.size=V:=by
  funext b;apply propext
  exact⟨fun h=>h.elim id fun g=>by omega,.inl⟩
 rw[hn]
 exact aj.go (h M hM) hb (hR.rely hO hr) (hO.rely hr) hF (.bN hr) rfl
theorem aj.leave{todo:List Item}{j:Option Code}(hl:Leaves todo j)(h:Q j fr σ):aj E ro todo fr σ Q:=
 fun M hM K w V a b cs _ hR hO hF=>M.ret ⟨K,σ,fr,a,todo,j,[],rfl,hl,h,hR,hO,hF,.refl _ _ _ _,rfl,.nil⟩
theorem aj.skip(h:aj E ro k fr σ Q):aj E ro (.code .skip::k) fr σ Q:=h.step fun _ _ _ _ _ _ _ _ _=>by simp[G,stepG,stepG.exec,Frame.atR]
theorem aj.label{l:Nat}(h:aj E ro k fr σ Q):aj E ro (.code (.label l)::k) fr σ Q:=h.step fun _ _ _ _ _ _ _ _ _=>by simp[G,stepG,stepG.exec,Frame.atR]
theorem aj.inBlock{l:Nat}(h:aj E ro k fr σ Q):aj E ro (.inBlock l::k) fr σ Q:=h.step fun _ _ _ _ _ _ _ _ _=>by simp[G,stepG,stepG.exec,Frame.atR]
theorem aj.seq{x y:Code}(h:aj E ro (.code x:: .code y::k) fr σ Q):aj E ro (.code (.seq x y)::k) fr σ Q:=h.step fun _ _ _ _ _ _ _ _ _=>by simp[G,stepG,stepG.exec,Frame.atR]
theorem aj.block{id:Nat}{c:Code}(h:aj E ro (.code c:: .inBlock id::k) fr σ Q):aj E ro (.code (.block id c)::k) fr σ Q:=h.step fun _ _ _ _ _ _ _ _ _=>by simp[G,stepG,stepG.exec,Frame.atR]
theorem aj.loop{c:Code}(h:aj E ro (.code c:: .inLoop c::k) fr σ Q):aj E ro (.code (.loop c)::k) fr σ Q:=h.step fun _ _ _ _ _ _ _ _ _=>by simp[G,stepG,stepG.exec,Frame.atR]
theorem aj.inLoop{c:Code}(h:aj E ro (.code c:: .inLoop c::k) fr σ Q):aj E ro (.inLoop c::k) fr σ Q:=h.step fun _ _ _ _ _ _ _ _ _=>by simp[G,stepG,stepG.exec,Frame.atR]
theorem aj.exit{id:Nat}{k':List Item}(hk:exitTo id k=some k')(h:aj E ro k' fr σ Q):aj E ro (.code (.exit id)::k) fr σ Q:=h.step fun _ _ _ _ _ _ _ _ _=>by simp[G,stepG,stepG.exec,Frame.atR,hk]
theorem aj.goto{id:Nat}{k':List Item}(hk:gotoIn id k=some k')(h:aj E ro k' fr σ Q):aj E ro (.code (.goto id)::k) fr σ Q:=h.step fun _ _ _ _ _ _ _ _ _=>by simp[G,stepG,stepG.exec,Frame.atR,hk]
theorem aj.scope{c:Code}(h:aj E ro (.code c:: .inScope c::k) fr σ Q):aj E ro (.code (.scope c)::k) fr σ Q:=h.step fun _ _ _ _ _ _ _ _ _=>by simp[G,stepG,stepG.exec,Frame.atR]
theorem aj.inScope{c:Code}(h:aj E ro k fr σ Q):aj E ro (.inScope c::k) fr σ Q:=h.step fun _ _ _ _ _ _ _ _ _=>by simp[G,stepG,stepG.exec,Frame.atR]
theorem aj.cond{c:Operand}{x y:Code}{t:Bool}(hc:aH fr c=some (.bool t))(h:aj E ro (.code (if t then x else y)::k) fr σ Q):aj E ro (.code (.cond c x y)::k) fr σ Q:=
 h.step fun a b _ _ _ _ _ _ hF=>by
  have hv:=(ak hF hc).dX
  have:=congrFun (Frame.eval_atR b a (.code (.cond c x y)::k)) c
  simp only[Frame.atR] at this
  simp[G,stepG,stepG.exec,Frame.atR,this,hv]
def bK(ds:List Oper)(fr:Fr):Option (Nat×Bool)→Option Bool
 | none=>some true
 | some (j,want)=>match (ds[j]?).bind (·.dst) with
  | none=>none
  | some d=>match fr.get d with
   | some (.bool b)=>some (b==want)
   | some (.tup [])=>some false
   | _=>none
theorem gk{K:Kr}{n:Nat}{ops:Array Oper}{a:Act}{o:Oper}{b:Bool}(hF:FR K n E.N fr a.tmps)(h:bK ops.toList fr o.guard=some b):Region.wanted o (yielded ops a.tmps)=b:=by
 unfold Region.wanted
 cases hg:o.guard with
 | none=>rw[hg] at h;simp[bK] at h;simpa using h
 | some gw=>
  obtain⟨j,want⟩:=gw
  rw[hg] at h
  simp only[bK] at h
  cases hd:(ops.toList[j]?).bind (·.dst) with
  | none=>rw[hd] at h;cases h
  | some d=>
   rw[hd] at h
   simp only at h
   have hd':(ops[j]?).bind (·.dst)=some d:=by simpa using hd
   split at h
   ·rename_i q hq
    obtain⟨c,h1,h2⟩:=hF.2 d _ hq
    have:=h2.dX;subst this
    simp only[yielded,hd',Option.bind_some,h1]
    simpa using h
   ·rename_i hq
    obtain⟨c,h1,h2⟩:=hF.2 d _ hq
    obtain⟨cc,rfl,_⟩:=h2.BK
    simp only[yielded,hd',Option.bind_some,h1]
    simpa using h
   ·cases h
end Go.Mu
namespace Go.Mu
open Go Go.Conc
def eY{P:Program}(S:MC P)(r:Nat)(args:List AV)(σ:List aa)(Q:AV→List aa→Prop):Prop:=
 ∀(K:Kr) (w:World) (cargs:Array Value),R K σ w→VRs K σ.length args cargs.toList→
  ∃fn tmps assign body,(Instr.yield (K.φ r) cargs).run P w= .ok (.round (K.φ r) fn tmps assign body) w∧
   ∀M,S M→∀V,aU M.Sh V K σ w→∀c cs,M.J (G (Frame.round (K.φ r) fn tmps assign body .normal) (c::cs)) w V fun g' w' V'=>∃v c' σ' K',g'=G (c.finish c') cs∧Q v σ'∧VR K' σ'.length v c'∧R K' σ' w'∧aU M.Sh V' K' σ' w'∧aI V K σ w V' K' σ' w'
def aop(E:Env)(fr:Fr)(σ:List aa)(type:TypeId)(op:Op):Option (AV×List aa):=
 match pop E.ty fr type op with
 | some v=>some (v,σ)
 | none=>match cU E.ty fr op with
  | some v=>some (v,σ)
  | none=>hop E.ty fr σ op
def fb(E:Env)(g:FuncId)(as:List AV)(σ:List aa)(K:AV→List aa→Prop):Prop:=
 match E.fs g as with
 | some v=>K v σ
 | none=>ao E.S g as σ K
theorem qV{E:Env}(hE:cm E){g:FuncId}{as:List AV}{σ:List aa}{K:AV→List aa→Prop}(h:fb E g as σ K):ao E.S g as σ K:=by
 unfold fb at h
 split at h
 ·rename_i v hv;exact hE.fs _ _ _ hv _ _ h
 ·exact h
theorem uF{E:Env}{g:FuncId}{as:List AV}{σ:List aa}{X Y:AV→List aa→Prop}(hn:∀v σ,X v σ→Y v σ)(h:fb E g as σ X):fb E g as σ Y:=by
 unfold fb at h⊢
 split at h
 ·exact hn _ _ h
 ·exact h.mono hn
theorem DR{σ:List aa}{v:Option AV}{X Y:AV→List aa→Prop}(hn:∀v σ,X v σ→Y v σ)(h:iF X σ v):iF Y σ v:=by
 unfold iF at h⊢
 split at h
 ·split at h
  ·split at h
   ·exact⟨h.1,fun i k v g1 g2=>hn _ _ (h.2.1 i k v g1 g2),fun g=>hn _ _ (h.2.2 g)⟩
   ·exact h
  ·exact h
 ·exact h
def dn:Operand→Bool
 | .const (.slice none 0 0)=>true
 | _=>false
theorem CK{y:Operand}(h:dn y=true):y= .const (.slice none 0 0):=by
 unfold dn at h;split at h
 ·rfl
 ·cases h
def jY(X:AV→List aa→Prop)(σ:List aa):BinOp→TK→Option AV→Prop
 | .eql,.slice _,some (.list _ _ xs)=>X (.bool false) σ∧(xs=[]→X (.bool true) σ)
 | .neq,.slice _,some (.list _ _ xs)=>X (.bool true) σ∧(xs=[]→X (.bool false) σ)
 | .eql,.slice _,some (.vec _ l)=>X (.bool false) σ∧(l=0→X (.bool true) σ)
 | .neq,.slice _,some (.vec _ l)=>X (.bool true) σ∧(l=0→X (.bool false) σ)
 | _,_,_=>False
theorem KP{X:AV→List aa→Prop}{σ:List aa}{bo:BinOp}{kd:TK}{v:Option AV}(h:jY X σ bo kd v) :
  ∃e u Z,kd= .slice e∧v=some u∧(∀K n c,VR K n u c→∃a len cap,c= .slice a len cap∧(a.isNone=true→Z))∧(bo= .eql∧X (.bool false) σ∧(Z→X (.bool true) σ)∨bo= .neq∧X (.bool true) σ∧(Z→X (.bool false) σ)):=by
 have hl:∀tk sz (xs:List AV) K n c,VR K n (.list tk sz xs) c→∃a len cap,c= .slice a len cap∧(a.isNone=true→xs=[]):=fun tk sz xs K n c h=>by
  cases h with
  | list _ _ _ q cap f hl ht ha hs h1' hh=>
   refine⟨q,_,cap,rfl,fun hn=>?_⟩
   apply Classical.byContradiction
   intro hne
   obtain⟨b,o,rfl,_⟩:=ha hne
   cases hn
 have hv:∀r l K n c,VR K n (.vec r l) c→∃a len cap,c= .slice a len cap∧(a.isNone=true→l=0):=fun r l K n c h=>by
  cases h with
  | vec _ _ a cap hr hl ht ha=>
   refine⟨a,_,cap,rfl,fun hn=>?_⟩
   rcases ha with h | ⟨b,o,rfl⟩
   ·exact h
   ·cases hn
 unfold jY at h
 split at h
 ·exact⟨_,_,_,rfl,rfl,hl _ _ _,.inl ⟨rfl,h⟩⟩
 ·exact⟨_,_,_,rfl,rfl,hl _ _ _,.inr ⟨rfl,h⟩⟩
 ·exact⟨_,_,_,rfl,rfl,hv _ _,.inl ⟨rfl,h⟩⟩
 ·exact⟨_,_,_,rfl,rfl,hv _ _,.inr ⟨rfl,h⟩⟩
 ·exact h.elim
theorem FZ{X Y:AV→List aa→Prop}{σ:List aa}{bo:BinOp}{kd:TK}{v:Option AV}(hn:∀v σ,X v σ→Y v σ)(h:jY X σ bo kd v):jY Y σ bo kd v:=by
 unfold jY at h⊢
 split at h
 ·exact⟨hn _ _ h.1,fun e=>hn _ _ (h.2 e)⟩
 ·exact⟨hn _ _ h.1,fun e=>hn _ _ (h.2 e)⟩
 ·exact⟨hn _ _ h.1,fun e=>hn _ _ (h.2 e)⟩
 ·exact⟨hn _ _ h.1,fun e=>hn _ _ (h.2 e)⟩
 ·exact h.elim
def aP(E:Env)(fr:Fr)(σ:List aa)(type:TypeId)(op:Op)(K:AV→List aa→Prop):Prop:=
 match op with
 | .call {callee:= .value f,args,..}=>match aH fr f,bI fr args.toList with
  | some (.fn (.func g) p q),some as=>fb E g (p++as++q) σ K
  | some (.yield r),some as=>eY E.S r as σ K
  | _,_=>False
 | .call {callee:= .invoke r m,args,..}=>match aH fr r,bI fr args.toList with
  | some (.iface t v),some as=>match E.mt t m with
   | some g=>fb E g (v::as) σ K
   | none=>False
  | _,_=>False
 | .next it b=>if b=true then ko K σ (aH fr it) else iF K σ (aH fr it)
 | .binOp bo t x y u=>match dn y with
  | true=>jY K σ bo (E.ty t).kd (aH fr x)
  | false=>match aop E fr σ type (.binOp bo t x y u) with
   | some (v,σ')=>K v σ'
   | none=>False
 | op=>match aop E fr σ type op with
  | some (v,σ')=>K v σ'
  | none=>False
def cX(E:Env)(all:List Oper):List Oper→Fr→List aa→(Fr→List aa→Prop)→Prop
 | [],fr,σ,Q=>Q fr σ
 | o::os,fr,σ,Q=>
  let next:Option Tmp→AV→List aa→Prop:=fun dst v σ'=>match dst with
   | none=>cX E all os fr σ' Q
   | some d=>d<E.N∧cX E all os (fr.put d v) σ' Q
  match bK all fr o.guard with
  | none=>False
  | some b=>(b=true→aP E fr σ o.type o.op (next o.dst))∧(b=false→next o.dst (.tup []) σ)
variable {E:Env}{ro:Option Nat}{K:Kr}{n:Nat}
theorem fK:VR K n (.tup []) undef:=VRs.tup (cs:=#[]) .nil
theorem VR.qD{r:Nat}{c:Value}(h:VR K n (.map r) c):r<n∧c= .map (some (K.φ r)):=by
 cases h with | map _ h=>exact⟨h,rfl⟩
theorem Hp(hE:cm E){σ σ':List aa}{w:World}(hR:R K σ w){fr:Fr}{a:Act}(hF:FR K σ.length E.N fr a.tmps){o:Oper}{v:AV}(h:aop E fr σ o.type o.op=some (v,σ')) :
  ∃c K' w',((execOp a.eval o).run E.P w= .ok (.value c) w'∨((execOp a.eval o).run E.P w= .ok .skip w'∧c=undef))∧VR K' σ'.length v c∧R K' σ' w'∧Step K σ w K' σ' w':=by
 unfold aop at h
 split at h
 ·rename_i v' hp
  simp only[Option.some.injEq,Prod.mk.injEq] at h
  obtain⟨rfl,rfl⟩:=h
  obtain⟨c,h1,h2⟩:=GM hE.ty hE.eq hF hp w
  exact⟨c,K,w,.inl h1,h2,hR,.refl _ _ _⟩
 ·split at h
  ·rename_i v' hp
   simp only[Option.some.injEq,Prod.mk.injEq] at h
   obtain⟨rfl,rfl⟩:=h
   obtain⟨c,K',w',h1,h2,h3,h4⟩:=I5 hE.ty hR hF hp
   exact⟨c,K',w',.inl h1,h2,h3,h4⟩
  ·obtain⟨dst,op,type,pos,after,guard⟩:=o
   simp only at h
   cases op with
   | alloc t=>
    simp only[hop] at h
    split at h
    ·rename_i hk
     simp only[Option.some.injEq,Prod.mk.injEq] at h
     obtain⟨rfl,rfl⟩:=h
     obtain⟨c,K',w',h1,h2,h3,h4⟩:=AX hE.ty hR hk (.tuple #[])
     exact⟨c,K',w',.inl (by simp only[execOp,Sem.run_bind,h1,Result.andThen_ok,Sem.run_pure]),by simpa using h2,h3,h4⟩
    ·cases h
   | box t x=>
    simp only[hop] at h
    split at h
    ·rename_i v' hv
     split at h
     ·rename_i hf
      simp only[Option.some.injEq,Prod.mk.injEq] at h
      obtain⟨rfl,rfl⟩:=h
      obtain⟨c,K',w',h1,h2,h3,h4⟩:=GW (P:=E.P) (t:=t) hR (ak hF hv) hf
      exact⟨c,K',w',.inl (by simp only[execOp,Sem.run_bind,h1,Result.andThen_ok,Sem.run_pure]),by simpa using h2,h3,h4⟩
     ·cases h
    ·cases h
   | load t x=>
    simp only[hop] at h
    split at h
    ·rename_i r off hx
     split at h
     ·rename_i cs hg
      simp only[Option.map_eq_some_iff,Prod.mk.injEq] at h
      obtain⟨v',hs,rfl,rfl⟩:=h
      obtain⟨f,hc⟩:=pJ hR hg
      obtain⟨c,h1,h2⟩:=kS (P:=E.P) (w:=w) hE.ty hc hs
      refine⟨c,K,w,.inl ?_,h2,hR,.refl _ _ _⟩
      rw[Nat.zero_add] at h1
      simp only[execOp,Instr.loadAt,(ak hF hx).gl.2,Instr.sureAddr,Sem.run_bind,Sem.run_pure,Result.andThen_ok,h1]
     ·cases h
    ·rename_i cs off hx
     simp only[Option.map_eq_some_iff,Prod.mk.injEq] at h
     obtain⟨v',hs,rfl,rfl⟩:=h
     obtain⟨b,o,hq,f,hc⟩:=wV hR (ak hF hx)
     obtain⟨c,h1,h2⟩:=kS (P:=E.P) (w:=w) hE.ty hc hs
     refine⟨c,K,w,.inl ?_,h2,hR,.refl _ _ _⟩
     simp only[execOp,Instr.loadAt,hq,Instr.sureAddr,Sem.run_bind,Sem.run_pure,Result.andThen_ok,h1]
    ·rename_i r m sz i off hx
     split at h
     ·rename_i sz' xs hg
      split at h
      ·rename_i hc
       obtain⟨rfl,rfl⟩:=hc
       unfold tG at h
       split at h
       ·rename_i x hxi
        simp only[Option.map_eq_some_iff,Prod.mk.injEq] at h
        obtain⟨v',hs,rfl,rfl⟩:=h
        obtain⟨hi,rfl⟩:=List.getElem?_eq_some_iff.1 hxi
        obtain⟨b,o,c,hq,h1,h2⟩:=Ax (P:=E.P) hE.ty hR hg (ak hF hx) hi hs
        refine⟨c,K,w,.inl ?_,h2,hR,.refl _ _ _⟩
        simp only[execOp,Instr.loadAt,hq,Instr.sureAddr,Sem.run_bind,Sem.run_pure,Result.andThen_ok,h1]
       ·cases h
      ·cases h
     ·cases h
    ·cases h
   | store t x y=>
    simp only[hop] at h
    split at h
    ·rename_i r off v' hx hy
     split at h
     ·rename_i cs hg
      split at h
      ·rename_i hc
       simp only[Option.some.injEq,Prod.mk.injEq] at h
       obtain⟨rfl,rfl⟩:=h
       obtain⟨w',h1,h2,h3⟩:=Az (P:=E.P) hE.ty hR hc.1 hg (ak hF hy) hc.2.1 hc.2.2.1 hc.2.2.2
       refine⟨undef,K,w',.inr ⟨?_,rfl⟩,fK,h2,h3⟩
       simp only[execOp,(ak hF hx).gl.2,Sem.run_bind,h1,Result.andThen_ok,Sem.run_pure]
      ·cases h
     ·cases h
    ·rename_i r m sz i off v' hx hy
     split at h
     ·rename_i sz' xs hg
      split at h
      ·rename_i hc
       obtain⟨rfl,rfl,c1,c2,c3,c4⟩:=hc
       unfold yL at h
       split at h
       ·rename_i x hxi
        split at h
        ·rename_i hfx
         simp only[Option.some.injEq,Prod.mk.injEq] at h
         obtain⟨rfl,rfl⟩:=h
         obtain⟨hi,rfl⟩:=List.getElem?_eq_some_iff.1 hxi
         obtain⟨w',h1,h2,h3⟩:=yT (P:=E.P) hE.ty hR c1 hg (ak hF hx) hi hfx (ak hF hy) c2 c3 c4
         refine⟨undef,K,w',.inr ⟨?_,rfl⟩,fK,h2,h3⟩
         simp only[execOp,Sem.run_bind,h1,Result.andThen_ok,Sem.run_pure]
        ·cases h
       ·cases h
      ·cases h
     ·cases h
    ·cases h
   | call c=>
    obtain⟨callee,args,ats⟩:=c
    cases callee with
    | builtin b=>
     cases b with
     | append=>
      simp only[hop] at h
      split at h
      ·rename_i t sz xs t' sz' ys t0 t1 hargs h0 h1
       split at h
       ·rename_i e e' hk0 hk1
        obtain⟨c1,c2,hl,g1,g2⟩:=(cg hF hargs).two
        have happ:∃c K' w',(Builtin.append_ ats type #[c1,c2]).run E.P w= .ok c w'∧VR K' σ'.length v c∧R K' σ' w'∧Step K σ w K' σ' w':=by
         unfold vH at h
         split at h
         ·exact DH hE.ty hR h0 h1 hk0 hk1 g1 g2 h type
         ·exact GD hE.ty hR h0 h1 hk0 hk1 g1 g2 h type
        obtain⟨c,K',w',k1,k2,k3,k4⟩:=happ
        refine⟨c,K',w',.inl ?_,k2,k3,k4⟩
        have hl':args.map a.eval= #[c1,c2]:=by apply Array.ext';simpa using hl
        simp only[execOp,resolve,hl',Sem.run_bind,Sem.run_pure,Result.andThen_ok,invoke,builtin,k1]
       ·cases h
      ·rename_i r len t' sz' ys t0 t1 hargs h0 h1
       split at h
       ·rename_i e e' hk0 hk1
        obtain⟨c1,c2,hl,g1,g2⟩:=(cg hF hargs).two
        obtain⟨c,K',w',k1,k2,k3,k4⟩:=EX hE.ty hR h0 h1 hk0 hk1 g1 g2 h type
        refine⟨c,K',w',.inl ?_,k2,k3,k4⟩
        have hl':args.map a.eval= #[c1,c2]:=by apply Array.ext';simpa using hl
        simp only[execOp,resolve,hl',Sem.run_bind,Sem.run_pure,Result.andThen_ok,invoke,builtin,k1]
       ·cases h
      ·cases h
     | copy=>
      simp only[hop] at h
      split at h
      ·rename_i r off len t sz xs t0 hargs h0
       split at h
       ·rename_i e cs hk0 hg
        split at h
        ·rename_i hc
         simp only[Option.some.injEq,Prod.mk.injEq] at h
         obtain⟨rfl,rfl⟩:=h
         obtain⟨c1,c2,hl,g1,g2⟩:=(cg hF hargs).two
         obtain⟨w',k1,k2,k3⟩:=Ec (P:=E.P) hE.ty hR h0 hk0 hc.1 hc.2.1 hc.2.2.1 hc.2.2.2.1 hg hc.2.2.2.2 g1 g2 type
         refine⟨_,K,w',.inl ?_,.int _ _,k2,k3⟩
         have hl':args.map a.eval= #[c1,c2]:=by apply Array.ext';simpa using hl
         simp only[execOp,resolve,hl',Sem.run_bind,Sem.run_pure,Result.andThen_ok,invoke,builtin,k1]
        ·cases h
       ·cases h
      ·cases h
     | _=>simp[hop] at h
    | _=>simp[hop] at h
   | makeSlice t l c=>
    simp only[hop] at h
    split at h
    ·rename_i e k l k' c' hk hl hc
     split at h
     ·rename_i hh
      obtain⟨rfl,h0,h1,h2,h3,h4,h5⟩:=hh
      simp only[Option.some.injEq,Prod.mk.injEq] at h
      obtain⟨rfl,rfl⟩:=h
      obtain⟨c,K',w',k1,k2,k3,k4⟩:=sT (P:=E.P) (k:=k) (k':=k') hE.ty hR hk h0 h1 h2 h3 h4 h5
      refine⟨c,K',w',.inl ?_,by simpa using k2,k3,k4⟩
      simp only[execOp,(ak hF hl).bY,(ak hF hc).bY,Sem.run_bind,k1,Result.andThen_ok,Sem.run_pure]
     ·cases h
    ·cases h
   | makeMap t m=>
    cases m with
    | some _=>simp[hop] at h
    | none=>
     simp only[hop] at h
     split at h
     ·simp only[Option.some.injEq,Prod.mk.injEq] at h
      obtain⟨rfl,rfl⟩:=h
      obtain⟨c,K',w',h1,h2,h3,h4⟩:=w7 (P:=E.P) hR (t:=t)
      exact⟨c,K',w',.inl (by simp only[execOp,Option.map_none,Sem.run_bind,h1,Result.andThen_ok,Sem.run_pure]),by simpa using h2,h3,h4⟩
     ·cases h
   | lookup t m k ok=>
    simp only[hop] at h
    split at h
    ·rename_i kt et r key hk hm hkey
     split at h
     ·rename_i es hg
      split at h
      ·rename_i hc
       obtain⟨c',h1,h2,rfl⟩:=xK hE.ty hE.eq hR hk hc.1 hc.2.1 hg (ak hF hkey) h
       refine⟨c',K,w,.inl ?_,h2,hR,.refl _ _ _⟩
       simp only[execOp,(ak hF hm).qD.2,Sem.run_bind,h1,Result.andThen_ok,Sem.run_pure]
      ·cases h
     ·cases h
    ·cases h
   | mapUpdate t m k x=>
    simp only[hop] at h
    split at h
    ·rename_i kt et r key u hk hm hkey hu
     split at h
     ·rename_i es hg
      split at h
      ·rename_i hc
       obtain⟨w',h1,rfl,h2,h3⟩:=z1 hE.ty hE.eq hR hk hc hg (ak hF hkey) (ak hF hu) h
       refine⟨undef,K,w',.inr ⟨?_,rfl⟩,fK,h2,h3⟩
       simp only[execOp,(ak hF hm).qD.2,Sem.run_bind,h1,Result.andThen_ok,Sem.run_pure]
      ·cases h
     ·cases h
    ·cases h
   | entry it=>
    simp only[hop] at h
    split at h
    ·rename_i r hit
     obtain⟨c,h1,h2,rfl⟩:=Bs (P:=E.P) hR h
     refine⟨c,K,w,.inl ?_,h2,hR,.refl _ _ _⟩
     simp only[execOp,(ak hF hit).gl.2,Sem.run_bind,h1,Result.andThen_ok,Sem.run_pure]
    ·cases h
   | range t m=>
    simp only[hop] at h
    split at h
    ·rename_i kt et r hk hm
     split at h
     ·rename_i es hg
      simp only[Option.some.injEq,Prod.mk.injEq] at h
      obtain⟨rfl,rfl⟩:=h
      obtain⟨c,K',w',h1,h2,h3,h4⟩:=BE hE.ty hR hk hg
      refine⟨c,K',w',.inl ?_,by simpa using h2,h3,h4⟩
      simp only[execOp,(ak hF hm).qD.2,Sem.run_bind,h1,Result.andThen_ok,Sem.run_pure]
     ·cases h
    ·rename_i s hk hm
     simp only[Option.some.injEq,Prod.mk.injEq] at h
     obtain⟨rfl,rfl⟩:=h
     obtain⟨c,K',w',h1,h2,h3,h4⟩:=ym hE.ty hR (s:=s) hk
     refine⟨c,K',w',.inl ?_,by simpa using h2,h3,h4⟩
     simp only[execOp,(ak hF hm).eR,Sem.run_bind,h1,Result.andThen_ok,Sem.run_pure]
    ·cases h
   | convert s d x=>
    simp only[hop,Option.map_eq_some_iff,Prod.mk.injEq] at h
    obtain⟨u,h,rfl,rfl⟩:=h
    unfold cvO at h
    split at h
    ·rename_i e t sz xs hs hd hx
     split at h
     ·rename_i hc
      simp only[Option.map_eq_some_iff] at h
      obtain⟨ns,hb,rfl⟩:=h
      refine⟨_,K,w,.inl ?_,.str _,hR,.refl _ _ _⟩
      simp only[execOp,Sem.run_bind,F6 hE.ty hR hs hd hc.1 hc.2 hb (ak hF hx),Result.andThen_ok,Sem.run_pure]
     ·cases h
    ·cases h
   | _=>simp[hop] at h
end Go.Mu
namespace Go.Mu
open Go Go.Conc
variable {E:Env}{K:Kr}{n:Nat}{P:Program}
theorem bL{x:Sem Value}(h:Tm P x Any):Tm P (do pure (.value (← x)):Sem Next) Any:=ab (dz h fun _ _=>trivial)
theorem Ca{x:Sem Unit}(h:Tm P x Any):Tm P (do x;pure .skip:Sem Next) Any:=ab (dz h fun _ _=>trivial)
theorem jz:∀(d:Nat) (t:TypeId) (x y:Value) {Φ:Bool→Prop},(∀b,Φ b)→Tm P (Op.eqGuardIn d t x y) Φ
 | 0,_,_,_,_,_=>trivial
 | d+1,t,x,y,Φ,hΦ=>by
  unfold Op.eqGuardIn
  refine ab (aS fun u=>?_)
  split
  ·exact hΦ _
  ·refine ab (ml (fun b=>?_) (fun f b=>?_) _ _)
   ·obtain⟨_ | r,u⟩:=b<;> exact hΦ _
   ·exact bQ (ab (iX fun v=>ab (iX fun w=>ab (jz d _ _ _ fun b=>bQ trivial trivial)))) trivial
  ·refine ab (cr fun n=>ab (pg (fun b=>?_) (fun f b=>?_) _ _))
   ·obtain⟨_ | r,u⟩:=b<;> exact hΦ _
   ·exact ab (iX fun v=>ab (iX fun w=>ab (jz d _ _ _ fun b=>bQ trivial trivial)))
  ·exact hΦ _
theorem nJ{op:BinOp}{t:TypeId}{x y:Operand}{a b:Value}{Φ:Unit→Prop}(h:Φ ()):Tm P (eqGuard op t x y a b) Φ:=by
 unfold eqGuard
 refine bQ h ?_
 split
 ·refine bQ h (ab (jz _ _ _ _ fun b=>bQ trivial h))
 ·refine ab (dp (ab (dp ?_)))
  exact bQ h (ab (jz _ _ _ _ fun b=>bQ trivial h))
 ·exact h
theorem ug{op:BinOp}{k:IntKind}{x y:Int}:Tm P (Op.intBits op k x y) Any:=by cases op<;> trivial
theorem Ld{op:UnOp}{x:Value}:Tm P (Op.unary op x) Any:=by
 unfold Op.unary
 split<;> first
  | trivial
  | exact qP
  | exact ug
theorem GO{op:BinOp}{t:TypeId}{k k':IntKind}{a b:Int}:Tm P (binOp op t (.int k a) (.int k' b)) Any:=by
 have key:Tm P (if k≠k' then stuck "BinOp: operands of different kinds" else
   match op with
   | .add | .sub | .mul=>Op.intArith op k a b
   | .quo | .rem=>Op.intDiv op k a b
   | .and | .or | .xor | .andNot=>Op.intBits op k a b
   | _=>Op.intCmp op a b:Sem Value) Any:=by
  refine bQ trivial ?_
  split<;> first
   | exact qP
   | (unfold Op.intDiv;refine bQ cd ?_;split<;> trivial)
   | exact ug
   | (unfold Op.intCmp;split<;> trivial)
 have sh:∀op,Tm P (Op.shift op k a k' b) Any:=fun op=>by
  unfold Op.shift;refine bQ cd ?_;dsimp only;split<;> trivial
 cases op with
 | shl=>exact sh .shl
 | shr=>exact sh .shr
 | _=>exact key
theorem Iu{op:BinOp}{t:TypeId}{a b:ByteArray}:Tm P (binOp op t (.string a) (.string b)) Any:=by
 have key:Tm P (Op.stringOp op a b) Any:=by
  unfold Op.stringOp;dsimp only;split<;> first | trivial | exact bQ trivial trivial
 cases op<;> exact key
theorem uK{op:BinOp}{t:TypeId}{a b:Value}(ha:Flat a)(hab:(∃x y,a= .bool x∧b= .bool y)∨(∃x y,a= .agg x∧b= .agg y)):Tm P (binOp op t a b) Any:=by
 rcases hab with⟨x,y,rfl,rfl⟩ | ⟨x,y,rfl,rfl⟩<;> cases op<;> first
  | trivial
  | exact ab (dz (yY ha) fun _ _=>trivial)
theorem Flat.ints(xs:List Int):Flat (.agg (xs.map (.int .i64)).toArray):= .agg _ fun i hi=>by
 simp;exact .int _ _
theorem xP{i:TI}{key:AV}{c:Value}(hk:fU i key=true)(hv:VR K n key c):Flat c:=by
 cases key with
 | int k a=>rw[hv.bY];exact .int _ _
 | str s=>rw[hv.eR];exact .str _
 | agg cs=>
  obtain⟨_,_,xs,hx⟩:=mr hk
  obtain⟨cc,rfl,hcc,_⟩:=hv.ik
  have:=ep hx hcc
  have e:cc=(xs.map (.int .i64)).toArray:=by rw[← this]
  rw[e];exact Flat.ints xs
 | _=>simp[fU] at hk
theorem Sk(hE:cm E){σ σ':List aa}{fr:Fr}{a:Act}(hF:FR K n E.N fr a.tmps){o:Oper}{v:AV}(h:aop E fr σ o.type o.op=some (v,σ')):Tm E.P (execOp a.eval o) Any:=by
 obtain⟨dst,op,type,pos,after,guard⟩:=o
 simp only at h
 have hpop:∀{X:Prop},(cU E.ty fr op=none)→(hop E.ty fr σ op=none)→(∀v',pop E.ty fr type op=some v'→X)→X:=fun h1 h2 h3=>by
  unfold aop at h
  rw[h1,h2] at h
  cases hp:pop E.ty fr type op with
  | none=>rw[hp] at h;cases h
  | some v'=>exact h3 v' hp
 cases op with
 | move x=>trivial
 | assign x=>trivial
 | pick c x y=>exact ab (qf fun _=>trivial)
 | alloc t=>exact bL yQ
 | box t x=>exact bL R0
 | build t ps=>exact bL JZ
 | buildSlice t l ps=>exact bL wT
 | load t x=>exact bL Hk
 | store t x y=>exact Ca Ej
 | fieldAddr t x f=>
  refine hpop rfl rfl fun v' hp=>bL (Dd fun fs g hd hg=>?_)
  simp only[pop] at hp
  have key:∀(gs:List (Nat×TypeId)),(E.ty t).kd= .strct gs→(∃p,gs[f]? = some p∧¬((E.ty p.2).kd.agg=none∨(E.ty p.2).sz=0))→∃n w,(sizeOf g.type).run E.P w= .ok n w∧n≠0:=by
   intro gs hk ⟨p,hp1,hp2⟩
   obtain⟨d,k1,k2⟩:=(hE.ty t (by rw[hk];simp)).kd
   rw[hk] at k2
   obtain⟨fields,rfl,rfl⟩:=k2
   rw[hd] at k1
   simp only[Option.some.injEq,TypeDesc.struct.injEq] at k1
   subst k1
   rw[List.getElem?_map] at hp1
   obtain⟨g',e1,e2⟩:=Option.map_eq_some_iff.1 hp1
   have:fs[f]? = some g':=by simpa using e1
   rw[hg] at this
   simp only[Option.some.injEq] at this
   subst this;subst e2
   exact⟨_,default,aY hE.ty (kT fun e=>hp2 (.inl e)) _,fun e=>hp2 (.inr e)⟩
  split at hp<;> first
   | (cases hp;done)
   | skip
  all_goals
   rename_i hk _
   split at hp
   ·rename_i p hp1
    split at hp
    ·cases hp
    ·rename_i hp2;exact key _ hk ⟨p,hp1,hp2⟩
   ·cases hp
 | field t x f=>exact bL Ki
 | index t x i=>exact bL KI
 | indexAddr t x i=>exact bL EF
 | nilCheck x=>
  refine hpop rfl rfl fun v' hp=>?_
  simp only[pop] at hp
  have fin:∀c,a.eval x=c→((∃q,c= .pointer (some q))∨∃f p q,c= .func (.func f) p q)→Tm E.P (execOp a.eval ⟨dst,.nilCheck x,type,pos,after,guard⟩) Any:=fun c hc hq=>by
   simp only[execOp,hc]
   rcases hq with⟨q,rfl⟩ | ⟨f,p,q,rfl⟩<;> trivial
  split at hp
  ·rename_i hx;exact fin _ (ak hF hx).gl.2 (.inl ⟨_,rfl⟩)
  ·rename_i hx
   have:=ak hF hx
   generalize hc:a.eval x=c at this
   cases this with | eptr _ _ b o f h1 h2 h3=>exact fin _ hc (.inl ⟨_,rfl⟩)
  ·rename_i hx
   have:=ak hF hx
   generalize hc:a.eval x=c at this
   cases this with | vptr _ _ _ _ _ b o cap h1 h2=>exact fin _ hc (.inl ⟨_,rfl⟩)
  ·rename_i hx
   have:=ak hF hx
   generalize hc:a.eval x=c at this
   cases this with | fn _ _ _ p q h1 h2 h3 h4=>exact fin _ hc (.inr ⟨_,_,_,rfl⟩)
  ·cases hp
 | binOp bo t x y u=>
  refine hpop rfl rfl fun v' hp=>bL (ab (nJ ?_))
  simp only[pop] at hp
  split at hp
  ·rename_i hx hy
   rw[(ak hF hx).bY,(ak hF hy).bY];exact GO
  ·rename_i ca cb hx hy
   split at hp
   ·have ia:∃xs,dT ca=some xs:=by
     cases e:dT ca with
     | none=>rw[e] at hp;simp at hp
     | some xs=>exact⟨xs,rfl⟩
    obtain⟨xs,hxs⟩:=ia
    obtain⟨cc,h1,h2,_⟩:=(ak hF hx).ik
    obtain⟨cc',h1',_⟩:=(ak hF hy).ik
    have e:cc=(xs.map (.int .i64)).toArray:=by rw[← ep hxs h2]
    rw[h1,h1',e]
    exact uK (Flat.ints xs) (.inr ⟨_,_,rfl,rfl⟩)
   ·cases hp
  ·rename_i hx hy
   rw[(ak hF hx).dX,(ak hF hy).dX]
   exact uK (.bool _) (.inl ⟨_,_,rfl,rfl⟩)
  ·rename_i hx hy
   rw[(ak hF hx).eR,(ak hF hy).eR];exact Iu
  ·cases hp
 | unOp op t x=>exact bL Ld
 | convert s d x=>
  refine bL ?_
  have und:∀{t:Nat} {d1:TypeDesc},(E.ty t).kd≠ .other→E.P.underlying t=some d1→bV d1 (E.ty t).kd:=fun hk h1=>by
   obtain⟨d2,k1,k2⟩:=(hE.ty _ hk).kd
   rw[h1] at k1;simp only[Option.some.injEq] at k1;subst k1;exact k2
  unfold aop at h
  cases hp:pop E.ty fr type (.convert s d x) with
  | some v'=>
   simp only[pop] at hp
   split at hp
   ·rename_i k1 k2 _ n hs hd hx
    rw[(ak hF hx).bY]
    unfold convert
    refine ab (cF fun d1 h1=>ab (cF fun d2 h2=>?_))
    have h2':=und (by rw[hd];simp) h2
    rw[hd] at h2';simp only[bV] at h2';subst h2'
    trivial
   ·cases hp
  | none=>
   rw[hp] at h
   simp only[cU,hop,Option.map_eq_some_iff] at h
   obtain⟨u,h,_⟩:=h
   unfold cvO at h
   split at h
   ·rename_i e t sz xs hs hd hx
    split at h
    ·rename_i hc
     have hv:=ak hF hx
     generalize hcv:a.eval x=c at hv
     cases hv with
     | list _ _ _ q cap f g1 g2 g3 g4 g5 g6=>
      unfold convert
      refine ab (cF fun d1 h1=>ab (cF fun d2 h2=>?_))
      have h1':=und (by rw[hs];simp) h1
      have h2':=und (by rw[hd];simp) h2
      rw[hs] at h1';rw[hd] at h2';simp only[bV] at h1' h2';subst h1';subst h2'
      refine ab (cF fun d3 h3=>?_)
      have h3':=und (by rw[hc.1];simp) h3
      rw[hc.1] at h3';simp only[bV] at h3';subst h3'
      exact LM
    ·cases h
   ·cases h
 | makeInterface t x=>exact bL su
 | makeFunc f x y=>exact bL (bD trivial)
 | makeMap t m=>
  cases m with
  | none=>exact bL Eo
  | some m=>simp[aop,pop,cU,hop] at h
 | makeSlice t l c=>exact bL xN
 | slice t x lo hi mx=>exact bL Ed
 | lookup t m k ok=>
  unfold aop at h
  simp only[pop,cU,hop] at h
  split at h
  ·rename_i kt et r key hk hm hkey
   split at h
   ·split at h
    ·rename_i hc;exact bL (Fu (xP hc.1 (ak hF hkey)))
    ·cases h
   ·cases h
  ·cases h
 | mapUpdate t m k x=>
  unfold aop at h
  simp only[pop,cU,hop] at h
  split at h
  ·rename_i kt et r key u hk hm hkey hu
   split at h
   ·split at h
    ·rename_i hc;exact Ca (yI (xP hc (ak hF hkey)))
    ·cases h
   ·cases h
  ·cases h
 | entry it=>exact bL Lp
 | range t m=>exact bL JW
 | extract t i=>exact bL C2
 | typeAssert x t u ok=>exact bL xa
 | call c=>
  obtain⟨callee,args,ats⟩:=c
  cases callee with
  | builtin b=>
   have hinv:(∀cs,Tm E.P (builtin b ats type cs (args.map a.eval)) Any)→Tm E.P (execOp a.eval ⟨dst,.call ⟨.builtin b,args,ats⟩,type,pos,after,guard⟩) Any:=fun hs=>by
    show Tm E.P (resolve a.eval ⟨.builtin b,args,ats⟩ type >>= fun d=>invoke d.target d.args) Any
    refine ab ?_
    exact hs _
   cases b with
   | len=>exact hinv fun _=>bL FY
   | max=>exact hinv fun _=>bL R9
   | min=>exact hinv fun _=>bL R2
   | copy=>exact hinv fun _=>bL PR
   | append=>
    have key:∀t0 t1 e e' u1 u2,ats[0]? = some t0→ats[1]? = some t1→(E.ty t0).kd= .slice e→(E.ty t1).kd= .slice e'→bI fr args.toList=some [u1,u2]→Tm E.P (execOp a.eval ⟨dst,.call ⟨.builtin .append,args,ats⟩,type,pos,after,guard⟩) Any:=by
     intro t0 t1 e e' u1 u2 h0 h1 hk0 hk1 hargs
     obtain⟨c1,c2,hl,_,_⟩:=(cg hF hargs).two
     have hl':args.map a.eval= #[c1,c2]:=by apply Array.ext';simpa using hl
     refine hinv fun cs=>?_
     rw[hl']
     obtain⟨d0,k1,k2⟩:=(hE.ty t0 (by rw[hk0];simp)).kd
     obtain⟨d1,k3,k4⟩:=(hE.ty t1 (by rw[hk1];simp)).kd
     rw[hk0] at k2;rw[hk1] at k4;simp only[bV] at k2 k4;subst k2;subst k4
     exact bL (Hl h0 h1 k1 k3)
    unfold aop at h
    simp only[pop,cU,hop] at h
    split at h
    ·rename_i hargs h0 h1
     split at h
     ·rename_i hk0 hk1;exact key _ _ _ _ _ _ h0 h1 hk0 hk1 hargs
     ·cases h
    ·rename_i hargs h0 h1
     split at h
     ·rename_i hk0 hk1;exact key _ _ _ _ _ _ h0 h1 hk0 hk1 hargs
     ·cases h
    ·cases h
   | _=>simp[aop,pop,cU,hop] at h
  | _=>simp[aop,pop,cU,hop] at h
 | _=>simp[aop,pop,cU,hop] at h
end Go.Mu
