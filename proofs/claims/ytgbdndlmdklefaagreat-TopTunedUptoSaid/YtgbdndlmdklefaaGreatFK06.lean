/- How a goroutine runs, alone or in company: the world turns ahead of each step by what the others do. -/
import Derived.Test.YtgbdndlmdklefaaGreatFK05
import Derived.Conc.Own
import Derived.Conc.Listed
set_option linter.unusedSimpArgs false
set_option linter.unusedVariables false
namespace Go.Mu
open Go Go.Conc
structure Rel(V:Nat→Prop)(w w₁:World):Prop where
 size:w.heap.size≤w₁.heap.size
 keep:∀b:Nat,b<w.heap.size→V b→w₁.heap[b]? = w.heap[b]?
 os:w₁.os=w.os
 tape:w₁.tape=w.tape
 output:w₁.output=w.output
theorem Rel.refl(V:Nat→Prop)(w:World):Rel V w w:=⟨Nat.le_refl _,fun _ _ _=>rfl,rfl,rfl,rfl⟩
theorem Rel.trans{V:Nat→Prop}{w w₁ w₂:World}(h:Rel V w w₁)(h':Rel V w₁ w₂):Rel V w w₂:=
 ⟨Nat.le_trans h.size h'.size,fun b hb hv=>(h'.keep b (Nat.lt_of_lt_of_le hb h.size) hv).trans (h.keep b hb hv),h'.os.trans h.os,h'.tape.trans h.tape,h'.output.trans h.output⟩
def Newer(V:Nat→Prop)(n m:Nat):Nat→Prop:=fun b=>V b∨(n≤b∧b<m)
theorem newer_same{V:Nat→Prop}{n:Nat}:Newer V n n=V:=by
 funext b;apply propext
 exact⟨fun h=>h.elim id fun g=>by omega,.inl⟩
structure Gua(Sh V:Nat→Prop)(w w':World)(es:Array Event):Prop where
 size:w.heap.size≤w'.heap.size
 keep:∀b:Nat,b<w.heap.size→(¬V b∨Sh b)→w'.heap[b]? = w.heap[b]?
 os:w'.os=w.os
 tape:w'.tape=w.tape
 output:w'.output=w.output
 dr:w.drawn≤w'.drawn
 evs:∀e∈es,EvOK w.heap.size (fun b=>V b∧¬Sh b) V w'.heap.size e
theorem Gua.idle(Sh V:Nat→Prop)(w:World):Gua Sh V w w #[]:=⟨Nat.le_refl _,fun _ _ _=>rfl,rfl,rfl,rfl,Nat.le_refl _,fun e he=>by simp at he⟩
theorem Gua.drew(Sh V:Nat→Prop)(w:World):Gua Sh V w {w with drawn:=w.drawn+1} #[]:=⟨Nat.le_refl _,fun _ _ _=>rfl,rfl,rfl,rfl,Nat.le_add_right _ _,fun e he=>by simp at he⟩
structure RMode(P:Program) where
 main:Bool
 Sh:Nat→Prop
 J:Goroutine→World→(Nat→Prop)→(Goroutine→World→(Nat→Prop)→Prop)→Prop
 ret:∀{g w V Post},Post g w V→J g w V Post
 bind:∀{g w V Post Post'},J g w V Post→(∀g' w' V',Post g' w' V'→J g' w' V' Post')→J g w V Post'
 step:∀{g w V Post},g.status= .running→(∀w₁,Rel V w w₁→∃g' w' es,stepG P main g w₁= .go g' w' es∧Gua Sh V w₁ w' es∧J g' w' (Newer V w₁.heap.size w'.heap.size) Post)→J g w V Post
abbrev MC(P:Program):=RMode P→Prop
structure OwnV(Sh V:Nat→Prop)(K:Kr)(σ:List AObj)(w:World):Prop where
 obj:∀b,¬Free K σ b→V b∧¬Sh b
 stab:∀b o v,K.S b o=some v→V b
 lay:∀g cs,layV g=some cs→V g
 sh:∀b,Sh b→b<w.heap.size
variable {Sh V V' V'':Nat→Prop}{K K' K'':Kr}{σ σ' σ'':List AObj}{w w₁ w' w'':World}
theorem not_free{r:Nat}{o:AObj}{b:Nat}(h1:σ[r]? = some o)(h2:ObjBlk K r o b):¬Free K σ b:=fun h=>h r o h1 h2
theorem R.lt_stab(h:R K σ w){b o:Nat}{v:Value}(hv:K.S b o=some v):b<w.heap.size:=by
 have:=h.stab b o v hv
 unfold World.cell? at this
 split at this
 ·rename_i c e f hc;exact(Array.getElem?_eq_some_iff.1 hc).1
 ·cases this
theorem R.lt_obj(h:R K σ w){b:Nat}(hb:¬Free K σ b):b<w.heap.size:=by
 apply Classical.byContradiction
 intro hn
 exact hb fun r o hr hblk=>hn ((h.obj r o hr).blk_lt hblk)
theorem R.same(h:R K σ w)(hs:∀b o v,K.S b o=some v→w₁.cell? ⟨b,o,none⟩= w.cell? ⟨b,o,none⟩)(ho:∀b,¬Free K σ b→w₁.heap[b]? = w.heap[b]?)(hl:∀g cs,layV g=some cs→∃E fz,w₁.heap[g]? = some (.cells cs E fz)):R K σ w₁:=
 ⟨fun b o v hv=>by rw[hs b o v hv];exact h.stab b o v hv,
  fun r o hr=>(h.obj r o hr).mono (List.getElem?_eq_some_iff.1 hr).1 (.refl _ _) (Nat.le_refl _) rfl fun b hb=>⟨ho b (not_free hr hb),fun _=>rfl⟩,
  h.inj,fun g cs hg=>⟨hl g cs hg,(h.lay g cs hg).2⟩⟩
theorem R.rely(h:R K σ w)(hO:OwnV Sh V K σ w)(hr:Rel V w w₁):R K σ w₁:=
 h.same (fun b o v hv=>by
   have:=hr.keep b (h.lt_stab hv) (hO.stab b o v hv)
   unfold World.cell?;rw[this])
  (fun b hb=>hr.keep b (h.lt_obj hb) (hO.obj b hb).1)
  (fun g cs hg=>by
   obtain⟨⟨E,fz,h1⟩,_⟩:=h.lay g cs hg
   exact⟨E,fz,by rw[hr.keep g (Array.getElem?_eq_some_iff.1 h1).1 (hO.lay g cs hg)];exact h1⟩)
theorem OwnV.rely(hO:OwnV Sh V K σ w)(hr:Rel V w w₁):OwnV Sh V K σ w₁:=⟨hO.obj,hO.stab,hO.lay,fun b hb=>Nat.lt_of_lt_of_le (hO.sh b hb) hr.size⟩
structure StepV(V:Nat→Prop)(K:Kr)(σ:List AObj)(w:World)(V':Nat→Prop)(K':Kr)(σ':List AObj)(w':World):Prop where
 ext:Ext σ.length K K'
 len:σ.length≤σ'.length
 size:w.heap.size≤w'.heap.size
 keep:∀b:Nat,b<w.heap.size→V b→Free K σ b→w'.heap[b]? = w.heap[b]?∧Free K' σ' b∧∀o,K'.S b o=K.S b o
 sub:∀b,V b→V' b
 new:∀b,V' b→V b∨w.heap.size≤b
 os:w'.os=w.os
 tape:w'.tape=w.tape
 output:w'.output=w.output
theorem StepV.refl(V:Nat→Prop)(K:Kr)(σ:List AObj)(w:World):StepV V K σ w V K σ w:=
 ⟨.refl _ _,Nat.le_refl _,Nat.le_refl _,fun b _ _ hf=>⟨rfl,hf,fun _=>rfl⟩,fun _ h=>h,fun _ h=> .inl h,rfl,rfl,rfl⟩
theorem StepV.trans(h:StepV V K σ w V' K' σ' w')(h':StepV V' K' σ' w' V'' K'' σ'' w''):StepV V K σ w V'' K'' σ'' w'':=
 ⟨h.ext.trans h'.ext h.len,Nat.le_trans h.len h'.len,Nat.le_trans h.size h'.size,fun b hb hv hf=>by
  obtain⟨h1,h2,h3⟩:=h.keep b hb hv hf
  obtain⟨g1,g2,g3⟩:=h'.keep b (Nat.lt_of_lt_of_le hb h.size) (h.sub b hv) h2
  exact⟨g1.trans h1,g2,fun o=>(g3 o).trans (h3 o)⟩,fun b hb=>h'.sub b (h.sub b hb),fun b hb=>(h'.new b hb).elim (h.new b) (fun g=> .inr (Nat.le_trans h.size g)),h'.os.trans h.os,h'.tape.trans h.tape,h'.output.trans h.output⟩
theorem StepV.of_rel(hr:Rel V w w₁):StepV V K σ w V K σ w₁:=
 ⟨.refl _ _,Nat.le_refl _,hr.size,fun b hb hv hf=>⟨hr.keep b hb hv,hf,fun _=>rfl⟩,fun _ h=>h,fun _ h=> .inl h,hr.os,hr.tape,hr.output⟩
theorem StepV.of_step(h:Step K σ w K' σ' w'):StepV V K σ w (Newer V w.heap.size w'.heap.size) K' σ' w':=
 ⟨h.ext,h.len,h.size,fun b hb _ hf=>h.keep b hb hf,fun b hb=> .inl hb,fun b hb=>hb.imp id (·.1),h.os,h.tape,h.output⟩
theorem StepV.of_mind(h:Step K σ w K' σ' w):StepV V K σ w V K' σ' w:=
 ⟨h.ext,h.len,h.size,fun b hb _ hf=>h.keep b hb hf,fun b hb=>hb,fun b hb=> .inl hb,h.os,h.tape,h.output⟩
theorem OwnV.step(hO:OwnV Sh V K σ w)(hR':R K' σ' w')(h:Step K σ w K' σ' w'):OwnV Sh (Newer V w.heap.size w'.heap.size) K' σ' w':=by
 refine⟨fun b hb=>?_,fun b o v hv=>?_,fun g cs hg=> .inl (hO.lay g cs hg),fun b hb=>Nat.lt_of_lt_of_le (hO.sh b hb) h.size⟩
 ·rcases Nat.lt_or_ge b w.heap.size with hlt | hge
  ·by_cases hf:Free K σ b
   ·exact absurd (h.keep b hlt hf).2.1 hb
   ·exact⟨.inl (hO.obj b hf).1,(hO.obj b hf).2⟩
  ·exact⟨.inr ⟨hge,hR'.lt_obj hb⟩,fun hs=>by have:=hO.sh b hs;omega⟩
 ·rcases Nat.lt_or_ge b w.heap.size with hlt | hge
  ·by_cases hf:Free K σ b
   ·exact .inl (hO.stab b o v (by rw[← (h.keep b hlt hf).2.2 o];exact hv))
   ·exact .inl (hO.obj b hf).1
  ·exact .inr ⟨hge,hR'.lt_stab hv⟩
theorem OwnV.mind(hO:OwnV Sh V K σ w)(hR:R K σ w)(hR':R K' σ' w)(h:Step K σ w K' σ' w):OwnV Sh V K' σ' w:=by
 have:=hO.step hR' h
 have hn:∀b,Newer V w.heap.size w.heap.size b→V b:=fun b hb=>hb.elim id fun g=>by omega
 exact⟨fun b hb=>⟨hn b (this.obj b hb).1,(this.obj b hb).2⟩,fun b o v hv=>hn b (this.stab b o v hv),fun g cs hg=>hn g (this.lay g cs hg),this.sh⟩
/-! ### what a safe operation touches -/
noncomputable def poison (K:Kr) (σ:List AObj) (w:World):World:=
 {w with heap:=Array.ofFn fun(i:Fin w.heap.size)=>open Classical in
   if¬Free K σ i then w.heap[i]
   else if(∃o v,K.S i o=some v)∨(layV i).isSome then match w.heap[i] with
    | .cells c T _=> .cells c T (0,c.size)
    | _=> .cells #[] 0 (0,0)
   else .cells #[] 0 (0,0)}
theorem poison_size:(poison K σ w).heap.size=w.heap.size:=by simp[poison]
theorem poison_at{b:Nat}(hb:b<w.heap.size):(poison K σ w).heap[b]? = some (open Classical in
   if¬Free K σ b then w.heap[b]
   else if(∃o v,K.S b o=some v)∨(layV b).isSome then match w.heap[b] with
    | .cells c T _=> .cells c T (0,c.size)
    | _=> .cells #[] 0 (0,0)
   else .cells #[] 0 (0,0)):=by
 simp only[poison]
 rw[Array.getElem?_eq_getElem (by simp;exact hb)]
 simp only[Array.getElem_ofFn]
 rfl
theorem poison_obj{b:Nat}(hb:b<w.heap.size)(hf:¬Free K σ b):(poison K σ w).heap[b]? = w.heap[b]? :=by
 rw[poison_at hb,if_pos hf,Array.getElem?_eq_getElem hb]
theorem poison_read{b:Nat}{c:Array Value}{T:TypeId}{fz:Nat×Nat}(hc:w.heap[b]? = some (.cells c T fz))(hf:Free K σ b)(hr:(∃o v,K.S b o=some v)∨(layV b).isSome):(poison K σ w).heap[b]? = some (.cells c T (0,c.size)):=by
 obtain⟨hb,h2⟩:=Array.getElem?_eq_some_iff.1 hc
 rw[poison_at hb,if_neg (by simpa using hf),if_pos hr,h2]
theorem poison_not{b:Nat}(hb:b<w.heap.size)(hf:Free K σ b)(hr:¬((∃o v,K.S b o=some v)∨(layV b).isSome)):(poison K σ w).heap[b]? = some (.cells #[] 0 (0,0)):=by
 rw[poison_at hb,if_neg (by simpa using hf),if_neg hr]
theorem cells_of_read(hR:R K σ w){b:Nat}(hr:(∃o v,K.S b o=some v)∨(layV b).isSome):∃c T fz,w.heap[b]? = some (.cells c T fz):=by
 rcases hr with⟨o,v,hv⟩ | hl
 ·have:=hR.stab b o v hv
  unfold World.cell? at this
  split at this
  ·rename_i c e f hc;exact⟨c,e,f,hc⟩
  ·cases this
 ·obtain⟨cs,hg⟩:=Option.isSome_iff_exists.1 hl
  obtain⟨⟨E,fz,h1⟩,_⟩:=hR.lay b cs hg
  exact⟨_,_,_,h1⟩
theorem okObj_of_objR{n r:Nat}{o:AObj}{b:Nat}(h:ObjR K n w r o)(hb:ObjBlk K r o b):∃ob,w.heap[b]? = some ob∧okObj ob=true:=by
 cases o with
 | cells cs=>
  obtain⟨cc,E,h1,_⟩:=h
  have:b=K.φ r:=hb
  exact⟨_,by rw[this];exact h1,rfl⟩
 | tail m sz=>
  obtain⟨a,cap,h1,h2,_,h3⟩:=h
  obtain⟨a',cap',g1,g2,g3⟩:=hb
  rw[h1] at g1;simp only[Option.some.injEq,Prod.mk.injEq] at g1
  obtain⟨rfl,rfl⟩:=g1
  obtain⟨b',o,cc,E,k1,k2,_⟩:=h3 g2
  simp only[Option.some.injEq] at k1
  subst k1
  exact⟨_,by rw[← g3];exact k2,rfl⟩
 | map es=>
  obtain⟨es',clock,h1,_⟩:=h
  have:b=K.φ r:=hb
  exact⟨_,by rw[this];exact h1,rfl⟩
 | iter m c s=>
  obtain⟨m',h1,_⟩:=h
  have:b=K.φ r:=hb
  exact⟨_,by rw[this];exact h1,rfl⟩
 | siter s p=>
  have:b=K.φ r:=hb
  exact⟨_,by rw[this];exact h,rfl⟩
 | loop st pend fn params assign body N fr=>
  obtain⟨l,h1,_⟩:=h
  have:b=K.φ r:=hb
  exact⟨_,by rw[this];exact h1,rfl⟩
 | vec sz xs=>
  obtain⟨a,cap,h1,h2,_,_,h3⟩:=h
  obtain⟨a',cap',g1,g2,g3⟩:=hb
  rw[h1] at g1;simp only[Option.some.injEq,Prod.mk.injEq] at g1
  obtain⟨rfl,rfl⟩:=g1
  obtain⟨b',o,cc,E,k1,k2,_⟩:=h3 g2
  simp only[Option.some.injEq] at k1
  subst k1
  exact⟨_,by rw[← g3];exact k2,rfl⟩
 | dead=>exact hb.elim
theorem R.poison(hR:R K σ w):R K σ (poison K σ w):=by
 refine hR.same (fun b o v hv=>?_) (fun b hb=>poison_obj (hR.lt_obj hb) hb) (fun g cs hg=>?_)
 ·by_cases hf:Free K σ b
  ·obtain⟨c,T,fz,hc⟩:=cells_of_read hR (.inl ⟨o,v,hv⟩)
   unfold World.cell?
   rw[poison_read hc hf (.inl ⟨o,v,hv⟩),hc]
  ·unfold World.cell?
   rw[poison_obj (hR.lt_stab hv) hf]
 ·obtain⟨⟨E,fz,h1⟩,h2⟩:=hR.lay g cs hg
  exact⟨_,_,poison_read h1 h2 (.inr (by rw[hg];rfl))⟩
theorem pois_poison(hR:R K σ w):Pois w.heap.size (fun b=>¬Free K σ b) (fun b=>(∃o v,K.S b o=some v)∨(layV b).isSome) (poison K σ w) w:=by
 refine⟨poison_size,Nat.le_refl _,fun b hb=>?_,fun b hb=>?_,fun b o hbo=>?_,rfl,rfl,rfl⟩
 ·rw[Array.getElem?_eq_none (by rw[poison_size];exact hb),Array.getElem?_eq_none hb]
 ·by_cases hf:Free K σ b
  ·by_cases hr:(∃o v,K.S b o=some v)∨(layV b).isSome
   ·obtain⟨c,T,fz,hc⟩:=cells_of_read hR hr
    exact .inr (.inl ⟨hr,c,T,fz,hc,poison_read hc hf hr⟩)
   ·exact .inr (.inr (poison_not hb hf hr))
  ·exact .inl ⟨hf,poison_obj hb hf⟩
 ·have hb:b<w.heap.size:=by rw[← poison_size (K:=K) (σ:=σ)];exact(Array.getElem?_eq_some_iff.1 hbo).1
  by_cases hf:Free K σ b
  ·by_cases hr:(∃o v,K.S b o=some v)∨(layV b).isSome
   ·obtain⟨c,T,fz,hc⟩:=cells_of_read hR hr
    rw[poison_read hc hf hr] at hbo
    simp only[Option.some.injEq] at hbo;subst hbo;rfl
   ·rw[poison_not hb hf hr] at hbo
    simp only[Option.some.injEq] at hbo;subst hbo;rfl
  ·have:∃r o',σ[r]? = some o'∧ObjBlk K r o' b:=by
    apply Classical.byContradiction
    intro hn
    exact hf fun r o' h1 h2=>hn ⟨r,o',h1,h2⟩
   obtain⟨r,o',h1,h2⟩:=this
   obtain⟨ob,g1,g2⟩:=okObj_of_objR (hR.obj r o' h1) h2
   rw[poison_obj hb hf,g1] at hbo
   simp only[Option.some.injEq] at hbo;subst hbo;exact g2
theorem EvOK.weak{n t:Nat}{A A' B B':Nat→Prop}{e:Event}(h:EvOK n A B t e)(hA:∀b,A b→A' b)(hB:∀b,B b→B' b):EvOK n A' B' t e:=by
 unfold EvOK at *
 split at h
 ·exact⟨h.1,h.2.1,h.2.2.elim .inl fun h=> .inr (h.elim (fun h=> .inl (hA _ h)) fun h=> .inr ⟨hB _ h.1,h.2⟩)⟩
 ·exact⟨h.1,h.2.1,h.2.2.imp id (hA _)⟩
 ·exact h
 ·exact h
theorem gua_of{P:Program}{α:Type}{s:Sem α}{Φ:α→Prop}(hT:Tm P s Φ)(hR:R K σ w)(hO:OwnV Sh V K σ w)(hs:∀w₀,R K σ w₀→∃x w₀',s.run P w₀= .ok x w₀')
  {x:α} (hx:s.run P w= .ok x w') (hst:Step K σ w K' σ' w') {es:Array Event} (he:∀e∈es,e∈s.events P w #[]):Gua Sh V w w' es:=by
 obtain⟨x₀,w₀',h₀⟩:=hs _ hR.poison
 obtain⟨w2,g1,_,_,_,g5⟩:=hT.local (pois_poison hR) h₀
 rw[hx] at g1
 simp only[Result.ok.injEq] at g1
 obtain⟨rfl,rfl⟩:=g1
 refine⟨hst.size,fun b hb hv=>?_,hst.os,hst.tape,hst.output,hst.dr,fun e hm=>?_⟩
 ·have hf:Free K σ b:=by
   apply Classical.byContradiction
   intro hn
   have:=hO.obj b hn
   exact hv.elim (fun h=>h this.1) (fun h=>this.2 h)
  exact(hst.keep b hb hf).1
 ·rcases g5 #[] e (he e hm) with h | h
  ·simp at h
  ·refine h.weak (fun b hb=>hO.obj b hb) (fun b hb=>?_)
   rcases hb with⟨o,v,hv⟩ | hl
   ·exact hO.stab b o v hv
   ·obtain⟨cs,hg⟩:=Option.isSome_iff_exists.1 hl
    exact hO.lay b cs hg
end Go.Mu
namespace Go.Mu
open Go Go.Conc
structure Callable(P:Program)(f:FuncId):Prop where
 fn:∃fn,P.funcs[f]? = some fn∧(fn.name== "runtime.NumGoroutine")=false∧fn.body.isNone=false
theorem Callable.run{P:Program}{f:FuncId}(h:Callable P f)(args:Array Value)(w:World):(callFunc f args).run P w= .ok (.enter f args) w:=by
 obtain⟨fn,h1,h2,h3⟩:=h.fn
 have h2':¬fn.name= "runtime.NumGoroutine" :=by simpa using h2
 have h3':¬fn.body=none:=fun e=>by rw[e] at h3;cases h3
 simp[callFunc,program,Sem.run,h1,h2',h3']
theorem Callable.tm{P:Program}{f:FuncId}(h:Callable P f)(args:Array Value):Tm P (callFunc f args) Any:=by
 obtain⟨fn,h1,h2,h3⟩:=h.fn
 unfold callFunc
 refine Tm_bind (Tm_program ?_)
 simp only[h1,h2,h3,Bool.false_eq_true,if_false]
 trivial
structure LeavesAt{P:Program}(M:RMode P)(V:Nat→Prop)(fr:Frame)(w:World)(X:Value→Prop):Prop where
 mode:fr.mode= .returning
 defers:fr.defers=[]
 fn:∃fn,P.funcs[fr.fn]? = some fn∧∀w₁,Rel V w w₁→∃v,(results fn fr.tmps).run P w₁= .ok v w₁∧X v∧∀e∈(results fn fr.tmps).events P w₁ #[],EvOK w₁.heap.size (fun b=>V b∧¬M.Sh b) V w₁.heap.size e
theorem LeavesAt.mono{P:Program}{M:RMode P}{V:Nat→Prop}{fr:Frame}{w:World}{X Y:Value→Prop}(h:LeavesAt M V fr w X)(hx:∀v,X v→Y v):LeavesAt M V fr w Y:=
 ⟨h.mode,h.defers,let⟨fn,h1,h2⟩:=h.fn;⟨fn,h1,fun w₁ hr=>let⟨v,h3,h4,h5⟩:=h2 w₁ hr;⟨v,h3,hx v h4,h5⟩⟩⟩
def ACallsM{P:Program}(M:RMode P)(f:FuncId)(args:List AV)(σ:List AObj)(Q:AV→List AObj→Prop):Prop:=
 ∀(K:Kr) (w:World) (V:Nat→Prop) (cargs:Array Value) (kd:CallKind) (cs:List Frame),R K σ w→OwnV M.Sh V K σ w→VRs K σ.length args cargs.toList→
  M.J (G (Frame.enter P f cargs kd) cs) w V fun g' w' V'=>∃fr v σ' K',g'=G fr cs∧fr.fn=f∧fr.kind=kd∧LeavesAt M V' fr w' (VR K' σ'.length v)∧Q v σ'∧R K' σ' w'∧OwnV M.Sh V' K' σ' w'∧StepV V K σ w V' K' σ' w'
def ACalls{P:Program}(S:MC P)(f:FuncId)(args:List AV)(σ:List AObj)(Q:AV→List AObj→Prop):Prop:=
 Callable P f∧∀M,S M→ACallsM M f args σ Q
theorem ACallsM.mono{P:Program}{M:RMode P}{f:FuncId}{args:List AV}{σ:List AObj}{Q Q':AV→List AObj→Prop}(h:ACallsM M f args σ Q)(hq:∀v σ',Q v σ'→Q' v σ'):ACallsM M f args σ Q':=
 fun K w V cargs kd cs hR hO hA=>M.bind (h K w V cargs kd cs hR hO hA) fun g' w' V' ⟨fr,v,σ',K',h1,h2,h3,h4,h5,h6⟩=>M.ret ⟨fr,v,σ',K',h1,h2,h3,h4,hq _ _ h5,h6⟩
theorem ACalls.mono{P:Program}{S:MC P}{f:FuncId}{args:List AV}{σ:List AObj}{Q Q':AV→List AObj→Prop}(h:ACalls S f args σ Q)(hq:∀v σ',Q v σ'→Q' v σ'):ACalls S f args σ Q':=
 ⟨h.1,fun M hM=>(h.2 M hM).mono hq⟩
def PureV{P:Program}(S:MC P)(f:FuncId)(args:List AV)(v:AV):Prop:=∀(σ:List AObj) (Q:AV→List AObj→Prop),Q v σ→ACalls S f args σ Q
structure Env where
 P:Program
 S:MC P
 ty:Nat→TI
 N:Nat
 mt:TypeId→String→Option FuncId
 ord:Nat→List Nat×List (Nat×List Nat)
 fs:FuncId→List AV→Option AV:=fun _ _=>none
structure EnvOK(E:Env):Prop where
 ty:TysOK E.P E.ty
 eq:EqsOK E.P E.ty
 mt:∀t s f,E.mt t s=some f→∀c w,(method (E.P.types.size+Made.depth) t c s).run E.P w= .ok (f,c) w
 mtT:∀t s f,E.mt t s=some f→∀c,Tm E.P (method (E.P.types.size+Made.depth) t c s) fun r=>r.1=f
 mixed:E.P.follows .mixedOrders=true
 fs:∀f as v,E.fs f as=some v→PureV E.S f as v
def mark(r:Nat):Deferred:={target:= .collected r,args:=#[]}
structure Marks(Sh V:Nat→Prop)(K:Kr)(σ:List AObj)(w:World)(B:Nat)(ms:List Nat):Prop where
 nodup:ms.Nodup
 lo:∀r∈ms,B≤r
 heap:∀r∈ms,w.heap[r]? = some (.deferred (some []))
 free:∀r∈ms,Free K σ r
 own:∀r∈ms,V r∧¬Sh r
inductive Leaves:List Item→Option Code→Prop
 | nil:Leaves [] none
 | ret (k:List Item):Leaves (.code .ret::k) (some .ret)
 | exit (id:Nat) (k:List Item) (h:exitTo id k=none):Leaves (.code (.exit id)::k) (some (.exit id))
def RoOK(ro:Option Nat)(K:Kr)(n:Nat)(b:Frame):Prop:=match ro with
 | none=>b.roundOf=none
 | some r=>r<n∧b.roundOf=some (K.φ r)∧b.kind= .normal
theorem RoOK.mono{ro:Option Nat}{K K':Kr}{n n':Nat}{b:Frame}(h:RoOK ro K n b)(he:Ext n K K')(hn:n≤n'):RoOK ro K' n' b:=by
 cases ro with
 | none=>exact h
 | some r=>exact⟨by have:=h.1;omega,by rw[he.φ r h.1];exact h.2.1,h.2.2⟩
def RunEnd{P:Program}(M:RMode P)(N:Nat)(Q:Option Code→Fr→List AObj→Prop)(K:Kr)(σ:List AObj)(w:World)(V:Nat→Prop)(ds:List Deferred)(b:Frame)(cs:List Frame)(g':Goroutine)(w':World)(V':Nat→Prop):Prop:=
 ∃K' σ' fr' a' todo' j ms,g'=G (b.atR a' todo') cs∧Leaves todo' j∧Q j fr' σ'∧R K' σ' w'∧OwnV M.Sh V' K' σ' w'∧FR K' σ'.length N fr' a'.tmps∧StepV V K σ w V' K' σ' w'∧
  a'.defers=ms.map mark++ds∧Marks M.Sh V' K' σ' w' w.heap.size ms
theorem RunEnd.before{P:Program}{M:RMode P}{N:Nat}{Q:Option Code→Fr→List AObj→Prop}{K K1:Kr}{σ σ1:List AObj}{w w1:World}{V V1:Nat→Prop}{ds:List Deferred}{b:Frame}{cs:List Frame}{g':Goroutine}{w':World}{V':Nat→Prop}
  (h:RunEnd M N Q K1 σ1 w1 V1 ds b cs g' w' V') (hs:StepV V K σ w V1 K1 σ1 w1):RunEnd M N Q K σ w V ds b cs g' w' V':=
 let⟨K',σ',fr',a',todo',j,ms,h1,h2,h3,h4,h5,h6,h7,h8,h9⟩:=h
 ⟨K',σ',fr',a',todo',j,ms,h1,h2,h3,h4,h5,h6,hs.trans h7,h8,h9.nodup,fun r hr=>Nat.le_trans hs.size (h9.lo r hr),h9.heap,h9.free,h9.own⟩
def ARunM(E:Env)(M:RMode E.P)(ro:Option Nat)(todo:List Item)(fr:Fr)(σ:List AObj)(Q:Option Code→Fr→List AObj→Prop):Prop:=
 ∀(K:Kr) (w:World) (V:Nat→Prop) (a:Act) (b:Frame) (cs:List Frame),RoOK ro K σ.length b→R K σ w→OwnV M.Sh V K σ w→FR K σ.length E.N fr a.tmps→
  M.J (G (b.atR a todo) cs) w V (RunEnd M E.N Q K σ w V a.defers b cs)
def ARun(E:Env)(ro:Option Nat)(todo:List Item)(fr:Fr)(σ:List AObj)(Q:Option Code→Fr→List AObj→Prop):Prop:=∀M,E.S M→ARunM E M ro todo fr σ Q
theorem ARun.mono{E:Env}{ro:Option Nat}{todo:List Item}{fr:Fr}{σ:List AObj}{Q Q':Option Code→Fr→List AObj→Prop}(h:ARun E ro todo fr σ Q)(hq:∀j fr σ,Q j fr σ→Q' j fr σ):ARun E ro todo fr σ Q':=
 fun M hM K w V a b cs hb hR hO hF=>M.bind (h M hM K w V a b cs hb hR hO hF) fun g' w' V' ⟨K',σ',fr',a',todo',j,ms,h1,h2,h3,h4⟩=>M.ret ⟨K',σ',fr',a',todo',j,ms,h1,h2,hq _ _ _ h3,h4⟩
variable {E:Env}{ro:Option Nat}{k:List Item}{fr:Fr}{σ:List AObj}{Q:Option Code→Fr→List AObj→Prop}
theorem Marks.nil{Sh V:Nat→Prop}{K:Kr}{w:World}{B:Nat}:Marks Sh V K σ w B []:=⟨List.nodup_nil,by simp,by simp,by simp,by simp⟩
theorem ARun.go{M:RMode E.P}{todo:List Item}(h:ARunM E M ro todo fr σ Q){K K0:Kr}{w w0:World}{V V0:Nat→Prop}{σ0:List AObj}{a:Act}{b:Frame}{cs:List Frame}{ds:List Deferred}(hb:RoOK ro K σ.length b)(hR:R K σ w)(hO:OwnV M.Sh V K σ w)(hF:FR K σ.length E.N fr a.tmps)
  (hs:StepV V0 K0 σ0 w0 V K σ w) (hd:a.defers=ds):M.J (G (b.atR a todo) cs) w V (RunEnd M E.N Q K0 σ0 w0 V0 ds b cs):=by
 subst hd
 exact M.bind (h K w V a b cs hb hR hO hF) fun g' w' V' h'=>M.ret (h'.before hs)
theorem ARun.step{todo todo':List Item}(h:ARun E ro todo' fr σ Q)
  (hs:∀(a:Act) (b:Frame) (cs:List Frame) (w:World) K (main:Bool),RoOK ro K σ.length b→R K σ w→FR K σ.length E.N fr a.tmps→stepG E.P main (G (b.atR a todo) cs) w= .go (G (b.atR a todo') cs) w):ARun E ro todo fr σ Q:=by
 intro M hM K w V a b cs hb hR hO hF
 refine M.step rfl fun w₁ hr=>⟨_,_,_,hs a b cs w₁ K M.main hb (hR.rely hO hr) hF,.idle _ _ _,?_⟩
 have hn:Newer V w₁.heap.size w₁.heap.size=V:=by
  funext b;apply propext
  exact⟨fun h=>h.elim id fun g=>by omega,.inl⟩
 rw[hn]
 exact ARun.go (h M hM) hb (hR.rely hO hr) (hO.rely hr) hF (.of_rel hr) rfl
theorem ARun.leave{todo:List Item}{j:Option Code}(hl:Leaves todo j)(h:Q j fr σ):ARun E ro todo fr σ Q:=
 fun M hM K w V a b cs _ hR hO hF=>M.ret ⟨K,σ,fr,a,todo,j,[],rfl,hl,h,hR,hO,hF,.refl _ _ _ _,rfl,.nil⟩
theorem ARun.skip(h:ARun E ro k fr σ Q):ARun E ro (.code .skip::k) fr σ Q:=h.step fun _ _ _ _ _ _ _ _ _=>by simp[G,stepG,stepG.exec,Frame.atR]
theorem ARun.label{l:Nat}(h:ARun E ro k fr σ Q):ARun E ro (.code (.label l)::k) fr σ Q:=h.step fun _ _ _ _ _ _ _ _ _=>by simp[G,stepG,stepG.exec,Frame.atR]
theorem ARun.inBlock{l:Nat}(h:ARun E ro k fr σ Q):ARun E ro (.inBlock l::k) fr σ Q:=h.step fun _ _ _ _ _ _ _ _ _=>by simp[G,stepG,stepG.exec,Frame.atR]
theorem ARun.seq{x y:Code}(h:ARun E ro (.code x:: .code y::k) fr σ Q):ARun E ro (.code (.seq x y)::k) fr σ Q:=h.step fun _ _ _ _ _ _ _ _ _=>by simp[G,stepG,stepG.exec,Frame.atR]
theorem ARun.block{id:Nat}{c:Code}(h:ARun E ro (.code c:: .inBlock id::k) fr σ Q):ARun E ro (.code (.block id c)::k) fr σ Q:=h.step fun _ _ _ _ _ _ _ _ _=>by simp[G,stepG,stepG.exec,Frame.atR]
theorem ARun.loop{c:Code}(h:ARun E ro (.code c:: .inLoop c::k) fr σ Q):ARun E ro (.code (.loop c)::k) fr σ Q:=h.step fun _ _ _ _ _ _ _ _ _=>by simp[G,stepG,stepG.exec,Frame.atR]
theorem ARun.inLoop{c:Code}(h:ARun E ro (.code c:: .inLoop c::k) fr σ Q):ARun E ro (.inLoop c::k) fr σ Q:=h.step fun _ _ _ _ _ _ _ _ _=>by simp[G,stepG,stepG.exec,Frame.atR]
theorem ARun.exit{id:Nat}{k':List Item}(hk:exitTo id k=some k')(h:ARun E ro k' fr σ Q):ARun E ro (.code (.exit id)::k) fr σ Q:=h.step fun _ _ _ _ _ _ _ _ _=>by simp[G,stepG,stepG.exec,Frame.atR,hk]
theorem ARun.goto{id:Nat}{k':List Item}(hk:gotoIn id k=some k')(h:ARun E ro k' fr σ Q):ARun E ro (.code (.goto id)::k) fr σ Q:=h.step fun _ _ _ _ _ _ _ _ _=>by simp[G,stepG,stepG.exec,Frame.atR,hk]
theorem ARun.scope{c:Code}(h:ARun E ro (.code c:: .inScope c::k) fr σ Q):ARun E ro (.code (.scope c)::k) fr σ Q:=h.step fun _ _ _ _ _ _ _ _ _=>by simp[G,stepG,stepG.exec,Frame.atR]
theorem ARun.inScope{c:Code}(h:ARun E ro k fr σ Q):ARun E ro (.inScope c::k) fr σ Q:=h.step fun _ _ _ _ _ _ _ _ _=>by simp[G,stepG,stepG.exec,Frame.atR]
theorem ARun.cond{c:Operand}{x y:Code}{t:Bool}(hc:aeval fr c=some (.bool t))(h:ARun E ro (.code (if t then x else y)::k) fr σ Q):ARun E ro (.code (.cond c x y)::k) fr σ Q:=
 h.step fun a b _ _ _ _ _ _ hF=>by
  have hv:=(aeval_sound hF hc).bool_inv
  have:=congrFun (Frame.eval_atR b a (.code (.cond c x y)::k)) c
  simp only[Frame.atR] at this
  simp[G,stepG,stepG.exec,Frame.atR,this,hv]
def wantA(ds:List Oper)(fr:Fr):Option (Nat×Bool)→Option Bool
 | none=>some true
 | some (j,want)=>match (ds[j]?).bind (·.dst) with
  | none=>none
  | some d=>match fr.get d with
   | some (.bool b)=>some (b==want)
   | some (.tup [])=>some false
   | _=>none
theorem wantA_sound{K:Kr}{n:Nat}{ops:Array Oper}{a:Act}{o:Oper}{b:Bool}(hF:FR K n E.N fr a.tmps)(h:wantA ops.toList fr o.guard=some b):Region.wanted o (yielded ops a.tmps)=b:=by
 unfold Region.wanted
 cases hg:o.guard with
 | none=>rw[hg] at h;simp[wantA] at h;simpa using h
 | some gw=>
  obtain⟨j,want⟩:=gw
  rw[hg] at h
  simp only[wantA] at h
  cases hd:(ops.toList[j]?).bind (·.dst) with
  | none=>rw[hd] at h;cases h
  | some d=>
   rw[hd] at h
   simp only at h
   have hd':(ops[j]?).bind (·.dst)=some d:=by simpa using hd
   split at h
   ·rename_i q hq
    obtain⟨c,h1,h2⟩:=hF.2 d _ hq
    have:=h2.bool_inv;subst this
    simp only[yielded,hd',Option.bind_some,h1]
    simpa using h
   ·rename_i hq
    obtain⟨c,h1,h2⟩:=hF.2 d _ hq
    obtain⟨cc,rfl,_⟩:=h2.tup_inv
    simp only[yielded,hd',Option.bind_some,h1]
    simpa using h
   ·cases h
end Go.Mu
namespace Go.Mu
open Go Go.Conc
def AYield{P:Program}(S:MC P)(r:Nat)(args:List AV)(σ:List AObj)(Q:AV→List AObj→Prop):Prop:=
 ∀(K:Kr) (w:World) (cargs:Array Value),R K σ w→VRs K σ.length args cargs.toList→
  ∃fn tmps assign body,(Instr.yield (K.φ r) cargs).run P w= .ok (.round (K.φ r) fn tmps assign body) w∧
   ∀M,S M→∀V,OwnV M.Sh V K σ w→∀c cs,M.J (G (Frame.round (K.φ r) fn tmps assign body .normal) (c::cs)) w V fun g' w' V'=>∃v c' σ' K',g'=G (c.finish c') cs∧Q v σ'∧VR K' σ'.length v c'∧R K' σ' w'∧OwnV M.Sh V' K' σ' w'∧StepV V K σ w V' K' σ' w'
def aop(E:Env)(fr:Fr)(σ:List AObj)(type:TypeId)(op:Op):Option (AV×List AObj):=
 match pop E.ty fr type op with
 | some v=>some (v,σ)
 | none=>match litOp E.ty fr op with
  | some v=>some (v,σ)
  | none=>hop E.ty fr σ op
def callA(E:Env)(g:FuncId)(as:List AV)(σ:List AObj)(K:AV→List AObj→Prop):Prop:=
 match E.fs g as with
 | some v=>K v σ
 | none=>ACalls E.S g as σ K
theorem callA_sound{E:Env}(hE:EnvOK E){g:FuncId}{as:List AV}{σ:List AObj}{K:AV→List AObj→Prop}(h:callA E g as σ K):ACalls E.S g as σ K:=by
 unfold callA at h
 split at h
 ·rename_i v hv;exact hE.fs _ _ _ hv _ _ h
 ·exact h
theorem callA_mono{E:Env}{g:FuncId}{as:List AV}{σ:List AObj}{X Y:AV→List AObj→Prop}(hn:∀v σ,X v σ→Y v σ)(h:callA E g as σ X):callA E g as σ Y:=by
 unfold callA at h⊢
 split at h
 ·exact hn _ _ h
 ·exact h.mono hn
theorem nextA_mono{σ:List AObj}{v:Option AV}{X Y:AV→List AObj→Prop}(hn:∀v σ,X v σ→Y v σ)(h:nextA X σ v):nextA Y σ v:=by
 unfold nextA at h⊢
 split at h
 ·split at h
  ·split at h
   ·exact⟨h.1,fun i k v g1 g2=>hn _ _ (h.2.1 i k v g1 g2),fun g=>hn _ _ (h.2.2 g)⟩
   ·exact h
  ·exact h
 ·exact h
def isNilC:Operand→Bool
 | .const (.slice none 0 0)=>true
 | _=>false
theorem isNilC_inv{y:Operand}(h:isNilC y=true):y= .const (.slice none 0 0):=by
 unfold isNilC at h;split at h
 ·rfl
 ·cases h
def nilA(X:AV→List AObj→Prop)(σ:List AObj):BinOp→TK→Option AV→Prop
 | .eql,.slice _,some (.list _ _ xs)=>X (.bool false) σ∧(xs=[]→X (.bool true) σ)
 | .neq,.slice _,some (.list _ _ xs)=>X (.bool true) σ∧(xs=[]→X (.bool false) σ)
 | .eql,.slice _,some (.vec _ l)=>X (.bool false) σ∧(l=0→X (.bool true) σ)
 | .neq,.slice _,some (.vec _ l)=>X (.bool true) σ∧(l=0→X (.bool false) σ)
 | _,_,_=>False
theorem nilA_inv{X:AV→List AObj→Prop}{σ:List AObj}{bo:BinOp}{kd:TK}{v:Option AV}(h:nilA X σ bo kd v) :
  ∃e u Z,kd= .slice e∧v=some u∧(∀K n c,VR K n u c→∃a len cap,c= .slice a len cap∧(a.isNone=true→Z))∧(bo= .eql∧X (.bool false) σ∧(Z→X (.bool true) σ)∨bo= .neq∧X (.bool true) σ∧(Z→X (.bool false) σ)):=by
 have hl:∀tk sz (xs:List AV) K n c,VR K n (.list tk sz xs) c→∃a len cap,c= .slice a len cap∧(a.isNone=true→xs=[]):=fun tk sz xs K n c h=>by
  cases h with
  | list _ _ _ q cap f hl ht ha hs h1' hh=>
   refine⟨q,_,cap,rfl,fun hn=>?_⟩
   apply Classical.byContradiction
   intro hne
   obtain⟨b,o,rfl,_⟩:=ha hne
   cases hn
 have hv:∀r l K n c,VR K n (.vec r l) c→∃a len cap,c= .slice a len cap∧(a.isNone=true→l=0):=fun r l K n c h=>by
  cases h with
  | vec _ _ a cap hr hl ht ha=>
   refine⟨a,_,cap,rfl,fun hn=>?_⟩
   rcases ha with h | ⟨b,o,rfl⟩
   ·exact h
   ·cases hn
 unfold nilA at h
 split at h
 ·exact⟨_,_,_,rfl,rfl,hl _ _ _,.inl ⟨rfl,h⟩⟩
 ·exact⟨_,_,_,rfl,rfl,hl _ _ _,.inr ⟨rfl,h⟩⟩
 ·exact⟨_,_,_,rfl,rfl,hv _ _,.inl ⟨rfl,h⟩⟩
 ·exact⟨_,_,_,rfl,rfl,hv _ _,.inr ⟨rfl,h⟩⟩
 ·exact h.elim
theorem nilA_mono{X Y:AV→List AObj→Prop}{σ:List AObj}{bo:BinOp}{kd:TK}{v:Option AV}(hn:∀v σ,X v σ→Y v σ)(h:nilA X σ bo kd v):nilA Y σ bo kd v:=by
 unfold nilA at h⊢
 split at h
 ·exact⟨hn _ _ h.1,fun e=>hn _ _ (h.2 e)⟩
 ·exact⟨hn _ _ h.1,fun e=>hn _ _ (h.2 e)⟩
 ·exact⟨hn _ _ h.1,fun e=>hn _ _ (h.2 e)⟩
 ·exact⟨hn _ _ h.1,fun e=>hn _ _ (h.2 e)⟩
 ·exact h.elim
def evOp(E:Env)(fr:Fr)(σ:List AObj)(type:TypeId)(op:Op)(K:AV→List AObj→Prop):Prop:=
 match op with
 | .call {callee:= .value f,args,..}=>match aeval fr f,aevals fr args.toList with
  | some (.fn (.func g) p q),some as=>callA E g (p++as++q) σ K
  | some (.yield r),some as=>AYield E.S r as σ K
  | _,_=>False
 | .call {callee:= .invoke r m,args,..}=>match aeval fr r,aevals fr args.toList with
  | some (.iface t v),some as=>match E.mt t m with
   | some g=>callA E g (v::as) σ K
   | none=>False
  | _,_=>False
 | .next it b=>if b=true then nextS K σ (aeval fr it) else nextA K σ (aeval fr it)
 | .binOp bo t x y u=>match isNilC y with
  | true=>nilA K σ bo (E.ty t).kd (aeval fr x)
  | false=>match aop E fr σ type (.binOp bo t x y u) with
   | some (v,σ')=>K v σ'
   | none=>False
 | op=>match aop E fr σ type op with
  | some (v,σ')=>K v σ'
  | none=>False
def evOps(E:Env)(all:List Oper):List Oper→Fr→List AObj→(Fr→List AObj→Prop)→Prop
 | [],fr,σ,Q=>Q fr σ
 | o::os,fr,σ,Q=>
  let next:Option Tmp→AV→List AObj→Prop:=fun dst v σ'=>match dst with
   | none=>evOps E all os fr σ' Q
   | some d=>d<E.N∧evOps E all os (fr.put d v) σ' Q
  match wantA all fr o.guard with
  | none=>False
  | some b=>(b=true→evOp E fr σ o.type o.op (next o.dst))∧(b=false→next o.dst (.tup []) σ)
variable {E:Env}{ro:Option Nat}{K:Kr}{n:Nat}
theorem undef_VR:VR K n (.tup []) undef:=VRs.tup (cs:=#[]) .nil
theorem VR.map_inv{r:Nat}{c:Value}(h:VR K n (.map r) c):r<n∧c= .map (some (K.φ r)):=by
 cases h with | map _ h=>exact⟨h,rfl⟩
theorem aop_sound(hE:EnvOK E){σ σ':List AObj}{w:World}(hR:R K σ w){fr:Fr}{a:Act}(hF:FR K σ.length E.N fr a.tmps){o:Oper}{v:AV}(h:aop E fr σ o.type o.op=some (v,σ')) :
  ∃c K' w',((execOp a.eval o).run E.P w= .ok (.value c) w'∨((execOp a.eval o).run E.P w= .ok .skip w'∧c=undef))∧VR K' σ'.length v c∧R K' σ' w'∧Step K σ w K' σ' w':=by
 unfold aop at h
 split at h
 ·rename_i v' hp
  simp only[Option.some.injEq,Prod.mk.injEq] at h
  obtain⟨rfl,rfl⟩:=h
  obtain⟨c,h1,h2⟩:=pop_sound hE.ty hE.eq hF hp w
  exact⟨c,K,w,.inl h1,h2,hR,.refl _ _ _⟩
 ·split at h
  ·rename_i v' hp
   simp only[Option.some.injEq,Prod.mk.injEq] at h
   obtain⟨rfl,rfl⟩:=h
   obtain⟨c,K',w',h1,h2,h3,h4⟩:=lit_sound hE.ty hR hF hp
   exact⟨c,K',w',.inl h1,h2,h3,h4⟩
  ·obtain⟨dst,op,type,pos,after,guard⟩:=o
   simp only at h
   cases op with
   | alloc t=>
    simp only[hop] at h
    split at h
    ·rename_i hk
     simp only[Option.some.injEq,Prod.mk.injEq] at h
     obtain⟨rfl,rfl⟩:=h
     obtain⟨c,K',w',h1,h2,h3,h4⟩:=alloc_sound hE.ty hR hk (.tuple #[])
     exact⟨c,K',w',.inl (by simp only[execOp,Sem.run_bind,h1,Result.andThen_ok,Sem.run_pure]),by simpa using h2,h3,h4⟩
    ·cases h
   | box t x=>
    simp only[hop] at h
    split at h
    ·rename_i v' hv
     split at h
     ·rename_i hf
      simp only[Option.some.injEq,Prod.mk.injEq] at h
      obtain⟨rfl,rfl⟩:=h
      obtain⟨c,K',w',h1,h2,h3,h4⟩:=box_sound (P:=E.P) (t:=t) hR (aeval_sound hF hv) hf
      exact⟨c,K',w',.inl (by simp only[execOp,Sem.run_bind,h1,Result.andThen_ok,Sem.run_pure]),by simpa using h2,h3,h4⟩
     ·cases h
    ·cases h
   | load t x=>
    simp only[hop] at h
    split at h
    ·rename_i r off hx
     split at h
     ·rename_i cs hg
      simp only[Option.map_eq_some_iff,Prod.mk.injEq] at h
      obtain⟨v',hs,rfl,rfl⟩:=h
      obtain⟨f,hc⟩:=cells_of_obj hR hg
      obtain⟨c,h1,h2⟩:=load_sound (P:=E.P) (w:=w) hE.ty hc hs
      refine⟨c,K,w,.inl ?_,h2,hR,.refl _ _ _⟩
      rw[Nat.zero_add] at h1
      simp only[execOp,Instr.loadAt,(aeval_sound hF hx).ptr_inv.2,Instr.sureAddr,Sem.run_bind,Sem.run_pure,Result.andThen_ok,h1]
     ·cases h
    ·rename_i cs off hx
     simp only[Option.map_eq_some_iff,Prod.mk.injEq] at h
     obtain⟨v',hs,rfl,rfl⟩:=h
     obtain⟨b,o,hq,f,hc⟩:=cells_of_eptr hR (aeval_sound hF hx)
     obtain⟨c,h1,h2⟩:=load_sound (P:=E.P) (w:=w) hE.ty hc hs
     refine⟨c,K,w,.inl ?_,h2,hR,.refl _ _ _⟩
     simp only[execOp,Instr.loadAt,hq,Instr.sureAddr,Sem.run_bind,Sem.run_pure,Result.andThen_ok,h1]
    ·rename_i r m sz i off hx
     split at h
     ·rename_i sz' xs hg
      split at h
      ·rename_i hc
       obtain⟨rfl,rfl⟩:=hc
       unfold loadV at h
       split at h
       ·rename_i x hxi
        simp only[Option.map_eq_some_iff,Prod.mk.injEq] at h
        obtain⟨v',hs,rfl,rfl⟩:=h
        obtain⟨hi,rfl⟩:=List.getElem?_eq_some_iff.1 hxi
        obtain⟨b,o,c,hq,h1,h2⟩:=vload_sound (P:=E.P) hE.ty hR hg (aeval_sound hF hx) hi hs
        refine⟨c,K,w,.inl ?_,h2,hR,.refl _ _ _⟩
        simp only[execOp,Instr.loadAt,hq,Instr.sureAddr,Sem.run_bind,Sem.run_pure,Result.andThen_ok,h1]
       ·cases h
      ·cases h
     ·cases h
    ·cases h
   | store t x y=>
    simp only[hop] at h
    split at h
    ·rename_i r off v' hx hy
     split at h
     ·rename_i cs hg
      split at h
      ·rename_i hc
       simp only[Option.some.injEq,Prod.mk.injEq] at h
       obtain⟨rfl,rfl⟩:=h
       obtain⟨w',h1,h2,h3⟩:=store_sound (P:=E.P) hE.ty hR hc.1 hg (aeval_sound hF hy) hc.2.1 hc.2.2.1 hc.2.2.2
       refine⟨undef,K,w',.inr ⟨?_,rfl⟩,undef_VR,h2,h3⟩
       simp only[execOp,(aeval_sound hF hx).ptr_inv.2,Sem.run_bind,h1,Result.andThen_ok,Sem.run_pure]
      ·cases h
     ·cases h
    ·rename_i r m sz i off v' hx hy
     split at h
     ·rename_i sz' xs hg
      split at h
      ·rename_i hc
       obtain⟨rfl,rfl,c1,c2,c3,c4⟩:=hc
       unfold storeV at h
       split at h
       ·rename_i x hxi
        split at h
        ·rename_i hfx
         simp only[Option.some.injEq,Prod.mk.injEq] at h
         obtain⟨rfl,rfl⟩:=h
         obtain⟨hi,rfl⟩:=List.getElem?_eq_some_iff.1 hxi
         obtain⟨w',h1,h2,h3⟩:=vstore_sound (P:=E.P) hE.ty hR c1 hg (aeval_sound hF hx) hi hfx (aeval_sound hF hy) c2 c3 c4
         refine⟨undef,K,w',.inr ⟨?_,rfl⟩,undef_VR,h2,h3⟩
         simp only[execOp,Sem.run_bind,h1,Result.andThen_ok,Sem.run_pure]
        ·cases h
       ·cases h
      ·cases h
     ·cases h
    ·cases h
   | call c=>
    obtain⟨callee,args,ats⟩:=c
    cases callee with
    | builtin b=>
     cases b with
     | append=>
      simp only[hop] at h
      split at h
      ·rename_i t sz xs t' sz' ys t0 t1 hargs h0 h1
       split at h
       ·rename_i e e' hk0 hk1
        obtain⟨c1,c2,hl,g1,g2⟩:=(aevals_sound hF hargs).two
        have happ:∃c K' w',(Builtin.append_ ats type #[c1,c2]).run E.P w= .ok c w'∧VR K' σ'.length v c∧R K' σ' w'∧Step K σ w K' σ' w':=by
         unfold appB at h
         split at h
         ·exact fapp_sound hE.ty hR h0 h1 hk0 hk1 g1 g2 h type
         ·exact app_sound hE.ty hR h0 h1 hk0 hk1 g1 g2 h type
        obtain⟨c,K',w',k1,k2,k3,k4⟩:=happ
        refine⟨c,K',w',.inl ?_,k2,k3,k4⟩
        have hl':args.map a.eval= #[c1,c2]:=by apply Array.ext';simpa using hl
        simp only[execOp,resolve,hl',Sem.run_bind,Sem.run_pure,Result.andThen_ok,invoke,builtin,k1]
       ·cases h
      ·rename_i r len t' sz' ys t0 t1 hargs h0 h1
       split at h
       ·rename_i e e' hk0 hk1
        obtain⟨c1,c2,hl,g1,g2⟩:=(aevals_sound hF hargs).two
        obtain⟨c,K',w',k1,k2,k3,k4⟩:=vapp_sound hE.ty hR h0 h1 hk0 hk1 g1 g2 h type
        refine⟨c,K',w',.inl ?_,k2,k3,k4⟩
        have hl':args.map a.eval= #[c1,c2]:=by apply Array.ext';simpa using hl
        simp only[execOp,resolve,hl',Sem.run_bind,Sem.run_pure,Result.andThen_ok,invoke,builtin,k1]
       ·cases h
      ·cases h
     | copy=>
      simp only[hop] at h
      split at h
      ·rename_i r off len t sz xs t0 hargs h0
       split at h
       ·rename_i e cs hk0 hg
        split at h
        ·rename_i hc
         simp only[Option.some.injEq,Prod.mk.injEq] at h
         obtain⟨rfl,rfl⟩:=h
         obtain⟨c1,c2,hl,g1,g2⟩:=(aevals_sound hF hargs).two
         obtain⟨w',k1,k2,k3⟩:=copy_sound (P:=E.P) hE.ty hR h0 hk0 hc.1 hc.2.1 hc.2.2.1 hc.2.2.2.1 hg hc.2.2.2.2 g1 g2 type
         refine⟨_,K,w',.inl ?_,.int _ _,k2,k3⟩
         have hl':args.map a.eval= #[c1,c2]:=by apply Array.ext';simpa using hl
         simp only[execOp,resolve,hl',Sem.run_bind,Sem.run_pure,Result.andThen_ok,invoke,builtin,k1]
        ·cases h
       ·cases h
      ·cases h
     | _=>simp[hop] at h
    | _=>simp[hop] at h
   | makeSlice t l c=>
    simp only[hop] at h
    split at h
    ·rename_i e k l k' c' hk hl hc
     split at h
     ·rename_i hh
      obtain⟨rfl,h0,h1,h2,h3,h4,h5⟩:=hh
      simp only[Option.some.injEq,Prod.mk.injEq] at h
      obtain⟨rfl,rfl⟩:=h
      obtain⟨c,K',w',k1,k2,k3,k4⟩:=makeSlice_sound (P:=E.P) (k:=k) (k':=k') hE.ty hR hk h0 h1 h2 h3 h4 h5
      refine⟨c,K',w',.inl ?_,by simpa using k2,k3,k4⟩
      simp only[execOp,(aeval_sound hF hl).int_inv,(aeval_sound hF hc).int_inv,Sem.run_bind,k1,Result.andThen_ok,Sem.run_pure]
     ·cases h
    ·cases h
   | makeMap t m=>
    cases m with
    | some _=>simp[hop] at h
    | none=>
     simp only[hop] at h
     split at h
     ·simp only[Option.some.injEq,Prod.mk.injEq] at h
      obtain⟨rfl,rfl⟩:=h
      obtain⟨c,K',w',h1,h2,h3,h4⟩:=makeMap_sound (P:=E.P) hR (t:=t)
      exact⟨c,K',w',.inl (by simp only[execOp,Option.map_none,Sem.run_bind,h1,Result.andThen_ok,Sem.run_pure]),by simpa using h2,h3,h4⟩
     ·cases h
   | lookup t m k ok=>
    simp only[hop] at h
    split at h
    ·rename_i kt et r key hk hm hkey
     split at h
     ·rename_i es hg
      split at h
      ·rename_i hc
       obtain⟨c',h1,h2,rfl⟩:=lookup_sound hE.ty hE.eq hR hk hc.1 hc.2.1 hg (aeval_sound hF hkey) h
       refine⟨c',K,w,.inl ?_,h2,hR,.refl _ _ _⟩
       simp only[execOp,(aeval_sound hF hm).map_inv.2,Sem.run_bind,h1,Result.andThen_ok,Sem.run_pure]
      ·cases h
     ·cases h
    ·cases h
   | mapUpdate t m k x=>
    simp only[hop] at h
    split at h
    ·rename_i kt et r key u hk hm hkey hu
     split at h
     ·rename_i es hg
      split at h
      ·rename_i hc
       obtain⟨w',h1,rfl,h2,h3⟩:=update_sound hE.ty hE.eq hR hk hc hg (aeval_sound hF hkey) (aeval_sound hF hu) h
       refine⟨undef,K,w',.inr ⟨?_,rfl⟩,undef_VR,h2,h3⟩
       simp only[execOp,(aeval_sound hF hm).map_inv.2,Sem.run_bind,h1,Result.andThen_ok,Sem.run_pure]
      ·cases h
     ·cases h
    ·cases h
   | entry it=>
    simp only[hop] at h
    split at h
    ·rename_i r hit
     obtain⟨c,h1,h2,rfl⟩:=entry_sound (P:=E.P) hR h
     refine⟨c,K,w,.inl ?_,h2,hR,.refl _ _ _⟩
     simp only[execOp,(aeval_sound hF hit).ptr_inv.2,Sem.run_bind,h1,Result.andThen_ok,Sem.run_pure]
    ·cases h
   | range t m=>
    simp only[hop] at h
    split at h
    ·rename_i kt et r hk hm
     split at h
     ·rename_i es hg
      simp only[Option.some.injEq,Prod.mk.injEq] at h
      obtain⟨rfl,rfl⟩:=h
      obtain⟨c,K',w',h1,h2,h3,h4⟩:=range_sound hE.ty hR hk hg
      refine⟨c,K',w',.inl ?_,by simpa using h2,h3,h4⟩
      simp only[execOp,(aeval_sound hF hm).map_inv.2,Sem.run_bind,h1,Result.andThen_ok,Sem.run_pure]
     ·cases h
    ·rename_i s hk hm
     simp only[Option.some.injEq,Prod.mk.injEq] at h
     obtain⟨rfl,rfl⟩:=h
     obtain⟨c,K',w',h1,h2,h3,h4⟩:=srange_sound hE.ty hR (s:=s) hk
     refine⟨c,K',w',.inl ?_,by simpa using h2,h3,h4⟩
     simp only[execOp,(aeval_sound hF hm).str_inv,Sem.run_bind,h1,Result.andThen_ok,Sem.run_pure]
    ·cases h
   | convert s d x=>
    simp only[hop,Option.map_eq_some_iff,Prod.mk.injEq] at h
    obtain⟨u,h,rfl,rfl⟩:=h
    unfold cvO at h
    split at h
    ·rename_i e t sz xs hs hd hx
     split at h
     ·rename_i hc
      simp only[Option.map_eq_some_iff] at h
      obtain⟨ns,hb,rfl⟩:=h
      refine⟨_,K,w,.inl ?_,.str _,hR,.refl _ _ _⟩
      simp only[execOp,Sem.run_bind,cvt_sound hE.ty hR hs hd hc.1 hc.2 hb (aeval_sound hF hx),Result.andThen_ok,Sem.run_pure]
     ·cases h
    ·cases h
   | _=>simp[hop] at h
end Go.Mu
namespace Go.Mu
open Go Go.Conc
variable {E:Env}{K:Kr}{n:Nat}{P:Program}
theorem Tm_val{x:Sem Value}(h:Tm P x Any):Tm P (do pure (.value (← x)):Sem Next) Any:=Tm_bind (Tm_mono h fun _ _=>trivial)
theorem Tm_unit{x:Sem Unit}(h:Tm P x Any):Tm P (do x;pure .skip:Sem Next) Any:=Tm_bind (Tm_mono h fun _ _=>trivial)
theorem Tm_eqGuardIn:∀(d:Nat) (t:TypeId) (x y:Value) {Φ:Bool→Prop},(∀b,Φ b)→Tm P (Op.eqGuardIn d t x y) Φ
 | 0,_,_,_,_,_=>trivial
 | d+1,t,x,y,Φ,hΦ=>by
  unfold Op.eqGuardIn
  refine Tm_bind (Tm_underlying fun u=>?_)
  split
  ·exact hΦ _
  ·refine Tm_bind (Tm_forInA (fun b=>?_) (fun f b=>?_) _ _)
   ·obtain⟨_ | r,u⟩:=b<;> exact hΦ _
   ·exact Tm_ite (Tm_bind (Tm_part fun v=>Tm_bind (Tm_part fun w=>Tm_bind (Tm_eqGuardIn d _ _ _ fun b=>Tm_ite trivial trivial)))) trivial
  ·refine Tm_bind (Tm_sizeOf fun n=>Tm_bind (Tm_forInR (fun b=>?_) (fun f b=>?_) _ _))
   ·obtain⟨_ | r,u⟩:=b<;> exact hΦ _
   ·exact Tm_bind (Tm_part fun v=>Tm_bind (Tm_part fun w=>Tm_bind (Tm_eqGuardIn d _ _ _ fun b=>Tm_ite trivial trivial)))
  ·exact hΦ _
theorem Tm_eqGuard{op:BinOp}{t:TypeId}{x y:Operand}{a b:Value}{Φ:Unit→Prop}(h:Φ ()):Tm P (eqGuard op t x y a b) Φ:=by
 unfold eqGuard
 refine Tm_ite h ?_
 split
 ·refine Tm_ite h (Tm_bind (Tm_eqGuardIn _ _ _ _ fun b=>Tm_ite trivial h))
 ·refine Tm_bind (Tm_program (Tm_bind (Tm_program ?_)))
  exact Tm_ite h (Tm_bind (Tm_eqGuardIn _ _ _ _ fun b=>Tm_ite trivial h))
 ·exact h
theorem Tm_intBits{op:BinOp}{k:IntKind}{x y:Int}:Tm P (Op.intBits op k x y) Any:=by cases op<;> trivial
theorem Tm_unary{op:UnOp}{x:Value}:Tm P (Op.unary op x) Any:=by
 unfold Op.unary
 split<;> first
  | trivial
  | exact Tm_intArith
  | exact Tm_intBits
theorem Tm_binInt{op:BinOp}{t:TypeId}{k k':IntKind}{a b:Int}:Tm P (binOp op t (.int k a) (.int k' b)) Any:=by
 have key:Tm P (if k≠k' then stuck "BinOp: operands of different kinds" else
   match op with
   | .add | .sub | .mul=>Op.intArith op k a b
   | .quo | .rem=>Op.intDiv op k a b
   | .and | .or | .xor | .andNot=>Op.intBits op k a b
   | _=>Op.intCmp op a b:Sem Value) Any:=by
  refine Tm_ite trivial ?_
  split<;> first
   | exact Tm_intArith
   | (unfold Op.intDiv;refine Tm_ite Tm_runtimePanic ?_;split<;> trivial)
   | exact Tm_intBits
   | (unfold Op.intCmp;split<;> trivial)
 have sh:∀op,Tm P (Op.shift op k a k' b) Any:=fun op=>by
  unfold Op.shift;refine Tm_ite Tm_runtimePanic ?_;dsimp only;split<;> trivial
 cases op with
 | shl=>exact sh .shl
 | shr=>exact sh .shr
 | _=>exact key
theorem Tm_binStr{op:BinOp}{t:TypeId}{a b:ByteArray}:Tm P (binOp op t (.string a) (.string b)) Any:=by
 have key:Tm P (Op.stringOp op a b) Any:=by
  unfold Op.stringOp;dsimp only;split<;> first | trivial | exact Tm_ite trivial trivial
 cases op<;> exact key
theorem Tm_binFlat{op:BinOp}{t:TypeId}{a b:Value}(ha:Flat a)(hab:(∃x y,a= .bool x∧b= .bool y)∨(∃x y,a= .agg x∧b= .agg y)):Tm P (binOp op t a b) Any:=by
 rcases hab with⟨x,y,rfl,rfl⟩ | ⟨x,y,rfl,rfl⟩<;> cases op<;> first
  | trivial
  | exact Tm_bind (Tm_mono (Tm_equal ha) fun _ _=>trivial)
theorem Flat.ints(xs:List Int):Flat (.agg (xs.map (.int .i64)).toArray):= .agg _ fun i hi=>by
 simp;exact .int _ _
theorem flat_key{i:TI}{key:AV}{c:Value}(hk:keyOK i key=true)(hv:VR K n key c):Flat c:=by
 cases key with
 | int k a=>rw[hv.int_inv];exact .int _ _
 | str s=>rw[hv.str_inv];exact .str _
 | agg cs=>
  obtain⟨_,_,xs,hx⟩:=keyOK_agg hk
  obtain⟨cc,rfl,hcc,_⟩:=hv.agg_inv
  have:=intsA_sound hx hcc
  have e:cc=(xs.map (.int .i64)).toArray:=by rw[← this]
  rw[e];exact Flat.ints xs
 | _=>simp[keyOK] at hk
theorem aop_tm(hE:EnvOK E){σ σ':List AObj}{fr:Fr}{a:Act}(hF:FR K n E.N fr a.tmps){o:Oper}{v:AV}(h:aop E fr σ o.type o.op=some (v,σ')):Tm E.P (execOp a.eval o) Any:=by
 obtain⟨dst,op,type,pos,after,guard⟩:=o
 simp only at h
 have hpop:∀{X:Prop},(litOp E.ty fr op=none)→(hop E.ty fr σ op=none)→(∀v',pop E.ty fr type op=some v'→X)→X:=fun h1 h2 h3=>by
  unfold aop at h
  rw[h1,h2] at h
  cases hp:pop E.ty fr type op with
  | none=>rw[hp] at h;cases h
  | some v'=>exact h3 v' hp
 cases op with
 | move x=>trivial
 | assign x=>trivial
 | pick c x y=>exact Tm_bind (Tm_asBool fun _=>trivial)
 | alloc t=>exact Tm_val Tm_alloc
 | box t x=>exact Tm_val Tm_box
 | build t ps=>exact Tm_val Tm_build
 | buildSlice t l ps=>exact Tm_val Tm_buildSlice
 | load t x=>exact Tm_val Tm_loadAt
 | store t x y=>exact Tm_unit Tm_storeAt
 | fieldAddr t x f=>
  refine hpop rfl rfl fun v' hp=>Tm_val (Tm_fieldAt fun fs g hd hg=>?_)
  simp only[pop] at hp
  have key:∀(gs:List (Nat×TypeId)),(E.ty t).kd= .strct gs→(∃p,gs[f]? = some p∧¬((E.ty p.2).kd.agg=none∨(E.ty p.2).sz=0))→∃n w,(sizeOf g.type).run E.P w= .ok n w∧n≠0:=by
   intro gs hk ⟨p,hp1,hp2⟩
   obtain⟨d,k1,k2⟩:=(hE.ty t (by rw[hk];simp)).kd
   rw[hk] at k2
   obtain⟨fields,rfl,rfl⟩:=k2
   rw[hd] at k1
   simp only[Option.some.injEq,TypeDesc.struct.injEq] at k1
   subst k1
   rw[List.getElem?_map] at hp1
   obtain⟨g',e1,e2⟩:=Option.map_eq_some_iff.1 hp1
   have:fs[f]? = some g':=by simpa using e1
   rw[hg] at this
   simp only[Option.some.injEq] at this
   subst this;subst e2
   exact⟨_,default,run_size hE.ty (kd_of_agg' fun e=>hp2 (.inl e)) _,fun e=>hp2 (.inr e)⟩
  split at hp<;> first
   | (cases hp;done)
   | skip
  all_goals
   rename_i hk _
   split at hp
   ·rename_i p hp1
    split at hp
    ·cases hp
    ·rename_i hp2;exact key _ hk ⟨p,hp1,hp2⟩
   ·cases hp
 | field t x f=>exact Tm_val Tm_field
 | index t x i=>exact Tm_val Tm_index
 | indexAddr t x i=>exact Tm_val Tm_indexAt
 | nilCheck x=>
  refine hpop rfl rfl fun v' hp=>?_
  simp only[pop] at hp
  have fin:∀c,a.eval x=c→((∃q,c= .pointer (some q))∨∃f p q,c= .func (.func f) p q)→Tm E.P (execOp a.eval ⟨dst,.nilCheck x,type,pos,after,guard⟩) Any:=fun c hc hq=>by
   simp only[execOp,hc]
   rcases hq with⟨q,rfl⟩ | ⟨f,p,q,rfl⟩<;> trivial
  split at hp
  ·rename_i hx;exact fin _ (aeval_sound hF hx).ptr_inv.2 (.inl ⟨_,rfl⟩)
  ·rename_i hx
   have:=aeval_sound hF hx
   generalize hc:a.eval x=c at this
   cases this with | eptr _ _ b o f h1 h2 h3=>exact fin _ hc (.inl ⟨_,rfl⟩)
  ·rename_i hx
   have:=aeval_sound hF hx
   generalize hc:a.eval x=c at this
   cases this with | vptr _ _ _ _ _ b o cap h1 h2=>exact fin _ hc (.inl ⟨_,rfl⟩)
  ·rename_i hx
   have:=aeval_sound hF hx
   generalize hc:a.eval x=c at this
   cases this with | fn _ _ _ p q h1 h2 h3 h4=>exact fin _ hc (.inr ⟨_,_,_,rfl⟩)
  ·cases hp
 | binOp bo t x y u=>
  refine hpop rfl rfl fun v' hp=>Tm_val (Tm_bind (Tm_eqGuard ?_))
  simp only[pop] at hp
  split at hp
  ·rename_i hx hy
   rw[(aeval_sound hF hx).int_inv,(aeval_sound hF hy).int_inv];exact Tm_binInt
  ·rename_i ca cb hx hy
   split at hp
   ·have ia:∃xs,intsA ca=some xs:=by
     cases e:intsA ca with
     | none=>rw[e] at hp;simp at hp
     | some xs=>exact⟨xs,rfl⟩
    obtain⟨xs,hxs⟩:=ia
    obtain⟨cc,h1,h2,_⟩:=(aeval_sound hF hx).agg_inv
    obtain⟨cc',h1',_⟩:=(aeval_sound hF hy).agg_inv
    have e:cc=(xs.map (.int .i64)).toArray:=by rw[← intsA_sound hxs h2]
    rw[h1,h1',e]
    exact Tm_binFlat (Flat.ints xs) (.inr ⟨_,_,rfl,rfl⟩)
   ·cases hp
  ·rename_i hx hy
   rw[(aeval_sound hF hx).bool_inv,(aeval_sound hF hy).bool_inv]
   exact Tm_binFlat (.bool _) (.inl ⟨_,_,rfl,rfl⟩)
  ·rename_i hx hy
   rw[(aeval_sound hF hx).str_inv,(aeval_sound hF hy).str_inv];exact Tm_binStr
  ·cases hp
 | unOp op t x=>exact Tm_val Tm_unary
 | convert s d x=>
  refine Tm_val ?_
  have und:∀{t:Nat} {d1:TypeDesc},(E.ty t).kd≠ .other→E.P.underlying t=some d1→KdOK d1 (E.ty t).kd:=fun hk h1=>by
   obtain⟨d2,k1,k2⟩:=(hE.ty _ hk).kd
   rw[h1] at k1;simp only[Option.some.injEq] at k1;subst k1;exact k2
  unfold aop at h
  cases hp:pop E.ty fr type (.convert s d x) with
  | some v'=>
   simp only[pop] at hp
   split at hp
   ·rename_i k1 k2 _ n hs hd hx
    rw[(aeval_sound hF hx).int_inv]
    unfold convert
    refine Tm_bind (Tm_underlyingP fun d1 h1=>Tm_bind (Tm_underlyingP fun d2 h2=>?_))
    have h2':=und (by rw[hd];simp) h2
    rw[hd] at h2';simp only[KdOK] at h2';subst h2'
    trivial
   ·cases hp
  | none=>
   rw[hp] at h
   simp only[litOp,hop,Option.map_eq_some_iff] at h
   obtain⟨u,h,_⟩:=h
   unfold cvO at h
   split at h
   ·rename_i e t sz xs hs hd hx
    split at h
    ·rename_i hc
     have hv:=aeval_sound hF hx
     generalize hcv:a.eval x=c at hv
     cases hv with
     | list _ _ _ q cap f g1 g2 g3 g4 g5 g6=>
      unfold convert
      refine Tm_bind (Tm_underlyingP fun d1 h1=>Tm_bind (Tm_underlyingP fun d2 h2=>?_))
      have h1':=und (by rw[hs];simp) h1
      have h2':=und (by rw[hd];simp) h2
      rw[hs] at h1';rw[hd] at h2';simp only[KdOK] at h1' h2';subst h1';subst h2'
      refine Tm_bind (Tm_underlyingP fun d3 h3=>?_)
      have h3':=und (by rw[hc.1];simp) h3
      rw[hc.1] at h3';simp only[KdOK] at h3';subst h3'
      exact Tm_bytes
    ·cases h
   ·cases h
 | makeInterface t x=>exact Tm_val Tm_makeInterface
 | makeFunc f x y=>exact Tm_val (Tm_pure trivial)
 | makeMap t m=>
  cases m with
  | none=>exact Tm_val Tm_makeMap
  | some m=>simp[aop,pop,litOp,hop] at h
 | makeSlice t l c=>exact Tm_val Tm_makeSlice
 | slice t x lo hi mx=>exact Tm_val Tm_sliceAt
 | lookup t m k ok=>
  unfold aop at h
  simp only[pop,litOp,hop] at h
  split at h
  ·rename_i kt et r key hk hm hkey
   split at h
   ·split at h
    ·rename_i hc;exact Tm_val (Tm_lookup (flat_key hc.1 (aeval_sound hF hkey)))
    ·cases h
   ·cases h
  ·cases h
 | mapUpdate t m k x=>
  unfold aop at h
  simp only[pop,litOp,hop] at h
  split at h
  ·rename_i kt et r key u hk hm hkey hu
   split at h
   ·split at h
    ·rename_i hc;exact Tm_unit (Tm_mapUpdate (flat_key hc (aeval_sound hF hkey)))
    ·cases h
   ·cases h
  ·cases h
 | entry it=>exact Tm_val Tm_entry
 | range t m=>exact Tm_val Tm_range
 | extract t i=>exact Tm_val Tm_extract
 | typeAssert x t u ok=>exact Tm_val Tm_typeAssert
 | call c=>
  obtain⟨callee,args,ats⟩:=c
  cases callee with
  | builtin b=>
   have hinv:(∀cs,Tm E.P (builtin b ats type cs (args.map a.eval)) Any)→Tm E.P (execOp a.eval ⟨dst,.call ⟨.builtin b,args,ats⟩,type,pos,after,guard⟩) Any:=fun hs=>by
    show Tm E.P (resolve a.eval ⟨.builtin b,args,ats⟩ type >>= fun d=>invoke d.target d.args) Any
    refine Tm_bind ?_
    exact hs _
   cases b with
   | len=>exact hinv fun _=>Tm_val Tm_len
   | max=>exact hinv fun _=>Tm_val Tm_max
   | min=>exact hinv fun _=>Tm_val Tm_min
   | copy=>exact hinv fun _=>Tm_val Tm_copy
   | append=>
    have key:∀t0 t1 e e' u1 u2,ats[0]? = some t0→ats[1]? = some t1→(E.ty t0).kd= .slice e→(E.ty t1).kd= .slice e'→aevals fr args.toList=some [u1,u2]→Tm E.P (execOp a.eval ⟨dst,.call ⟨.builtin .append,args,ats⟩,type,pos,after,guard⟩) Any:=by
     intro t0 t1 e e' u1 u2 h0 h1 hk0 hk1 hargs
     obtain⟨c1,c2,hl,_,_⟩:=(aevals_sound hF hargs).two
     have hl':args.map a.eval= #[c1,c2]:=by apply Array.ext';simpa using hl
     refine hinv fun cs=>?_
     rw[hl']
     obtain⟨d0,k1,k2⟩:=(hE.ty t0 (by rw[hk0];simp)).kd
     obtain⟨d1,k3,k4⟩:=(hE.ty t1 (by rw[hk1];simp)).kd
     rw[hk0] at k2;rw[hk1] at k4;simp only[KdOK] at k2 k4;subst k2;subst k4
     exact Tm_val (Tm_append h0 h1 k1 k3)
    unfold aop at h
    simp only[pop,litOp,hop] at h
    split at h
    ·rename_i hargs h0 h1
     split at h
     ·rename_i hk0 hk1;exact key _ _ _ _ _ _ h0 h1 hk0 hk1 hargs
     ·cases h
    ·rename_i hargs h0 h1
     split at h
     ·rename_i hk0 hk1;exact key _ _ _ _ _ _ h0 h1 hk0 hk1 hargs
     ·cases h
    ·cases h
   | _=>simp[aop,pop,litOp,hop] at h
  | _=>simp[aop,pop,litOp,hop] at h
 | _=>simp[aop,pop,litOp,hop] at h
end Go.Mu
