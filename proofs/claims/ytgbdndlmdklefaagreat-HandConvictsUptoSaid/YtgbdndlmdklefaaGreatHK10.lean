/- Part Y of the abstract layer: range over functions. -/
import Derived.Test.YtgbdndlmdklefaaGreatHK09
import Derived.RangeFuncIn
import Derived.Laws.BitsLemmas
set_option linter.unusedSimpArgs false
set_option linter.unusedVariables false
namespace Go.Mu
open Go Go.Conc
variable {E:Env}{σ:List aa}{Q:au}
theorem Ae{w:World}{b p:Nat}{l:Loop}(h:w.heap[b]? = some (.loop l)):w.cell? ⟨b,p,none⟩= none:=by simp[World.cell?,h]
theorem R.oK{K:Kr}{w:World}(hR:R K σ w){r:Nat}{st:LoopState}{pend:Option Code}{fn:FuncId}{ps:Array Tmp}{as body:Code}{N:Nat}{fr:Fr}(hg:ai σ r=some (.loop st pend fn ps as body N fr)) :
  ∃l:Loop,w.heap[K.φ r]? = some (.loop l)∧l.state=st∧l.pending=pend∧l.fn=fn∧l.params=ps∧l.assign=as∧l.body=body∧FR K σ.length N fr l.tmps∧
   (∀st' pend',R K (ax σ r (.loop st' pend' fn ps as body N fr)) {w with heap:=w.heap.setIfInBounds (K.φ r) (.loop {l with state:=st',pending:=pend'})}∧
    Step K σ w K (ax σ r (.loop st' pend' fn ps as body N fr)) {w with heap:=w.heap.setIfInBounds (K.φ r) (.loop {l with state:=st',pending:=pend'})})∧
   (∀l',R K (ax σ r .dead) {w with heap:=w.heap.setIfInBounds (K.φ r) (.loop l')}∧Step K σ w K (ax σ r .dead) {w with heap:=w.heap.setIfInBounds (K.φ r) (.loop l')}):=by
 have hr:r<σ.length:=(List.getElem?_eq_some_iff.1 hg).1
 obtain⟨l,h1,h2,h3,h4,h5,h6,h7,h8⟩:=hR.obj r _ hg
 have hlt:=bJ h1
 have hS:∀p,K.S (K.φ r) p=none:=fun p=>by
  cases hk:K.S (K.φ r) p with
  | none=>rfl
  | some v=>have:=hR.stab _ _ _ hk;rw[Ae h1] at this;cases this
 have hother:∀(o:Obj) b,b≠K.φ r→({w with heap:=w.heap.setIfInBounds (K.φ r) o}:World).heap[b]? = w.heap[b]? :=fun o b hb=>by
  show(w.heap.setIfInBounds (K.φ r) o)[b]? = _
  rw[Array.getElem?_setIfInBounds_ne (Ne.symm hb)]
 have hself:∀(o:Obj),({w with heap:=w.heap.setIfInBounds (K.φ r) o}:World).heap[K.φ r]? = some o:=fun o=>by
  show(w.heap.setIfInBounds (K.φ r) o)[K.φ r]? = _
  simp[hlt]
 refine⟨l,h1,h2,h3,h4,h5,h6,h7,h8,fun st' pend'=>?_,fun l'=>?_⟩
 ·exact hR.fP hg (K.φ r) rfl K (.refl _ _) (fun _ _=>rfl) (fun b hb=>hother _ b hb) (by simp) (fun _ _ _=>rfl) (fun p v hv=>by rw[hS p] at hv;cases hv) (fun b hb=>hb)
   ⟨_,hself _,rfl,rfl,h4,h5,h6,h7,h8⟩ rfl rfl rfl (by rw[hself,h1];rfl)
 ·exact hR.fP hg (K.φ r) rfl K (.refl _ _) (fun _ _=>rfl) (fun b hb=>hother _ b hb) (by simp) (fun _ _ _=>rfl) (fun p v hv=>by rw[hS p] at hv;cases hv) (fun b hb=>hb.elim) trivial rfl rfl rfl (by rw[hself,h1];rfl)
theorem ft{P:Program}{w:World}{b:Nat}{l:Loop}(h:w.heap[b]? = some (.loop l)):(Instr.getLoop b).run P w= .ok l w:=by
 simp[Instr.getLoop,getObj,Sem.run,h]
theorem gu{P:Program}{w:World}{b:Nat}{l:Loop}(o:Obj)(h:w.heap[b]? = some (.loop l)):(setObj b o).run P w= .ok () {w with heap:=w.heap.setIfInBounds b o}:=by
 simp[setObj,Sem.run,h]
theorem vm{P:Program}{w:World}{b:Nat}{l:Loop}(h:w.heap[b]? = some (.loop l))(hs:l.state= .ready) :
  (Instr.beginRound b).run P w= .ok () {w with heap:=w.heap.setIfInBounds b (.loop {l with state:= .busy})}:=by
 simp[Instr.beginRound,Sem.run_bind,ft h,gu _ h,Result.andThen_ok,hs]
theorem yu{P:Program}{w:World}{b:Nat}{l:Loop}(h:w.heap[b]? = some (.loop l))(j:Option Code) :
  (Instr.endRound b j).run P w= .ok (.bool j.isNone) {w with heap:=w.heap.setIfInBounds b (.loop {l with state:=if j.isNone then .ready else .done,pending:=j})}:=by
 simp[Instr.endRound,Sem.run_bind,ft h,gu _ h,Result.andThen_ok]
theorem BF{P:Program}{w:World}{b:Nat}{l:Loop}(h:w.heap[b]? = some (.loop l))(hs:l.state≠ .busy) :
  (Instr.endLoop b).run P w= .ok l.pending {w with heap:=w.heap.setIfInBounds b (.loop {l with state:= .exhausted})}:=by
 simp[Instr.endLoop,Sem.run_bind,ft h,gu _ h,Result.andThen_ok]
 intro hb;exact absurd hb hs
def sB:Fr→List Tmp→List AV→Fr
 | fr,t::ts,v::vs=>sB (fr.put t v) ts vs
 | fr,_,_=>fr
theorem tn{K:Kr}{n N:Nat}:∀{ts:List Tmp} {vs:List AV} {cs:List Value} {fr:Fr} {tmps:Array Value},(∀t∈ts,t<N)→VRs K n vs cs→FR K n N fr tmps→FR K n N (sB fr ts vs) ((ts.zip cs).foldl (fun tmps p=>tmps.setIfInBounds p.1 p.2) tmps)
 | [],_,_,_,_,_,_,h=>h
 | t::ts,[],cs,fr,tmps,ht,hv,h=>by
  have:cs=[]:=List.length_eq_zero_iff.1 hv.1.symm
  subst this;exact h
 | t::ts,v::vs,[],fr,tmps,ht,hv,h=>absurd hv.1 (by simp)
 | t::ts,v::vs,c::cs,fr,tmps,ht,hv,h=>by
  have h1:FR K n N (fr.put t v) (({tmps:=tmps,defers:=[]}:Act).put (some t) c).tmps:=FR.put (a:={tmps:=tmps,defers:=[]}) h (ht t (by simp)) hv.head
  exact tn (ts:=ts) (vs:=vs) (cs:=cs) (fun t ht'=>ht t (by simp[ht'])) ⟨by have:=hv.1;simp at this;exact this,fun i a b=>hv.2 (i+1) (by simp;exact a) (by simp;exact b)⟩ h1
def jf(b:Nat)(e:Event):Prop:=e=⟨.obj b,false,false⟩∨e=⟨.obj b,true,false⟩
theorem nM{P:Program}{w:World}{b:Nat}{l:Loop}(h:w.heap[b]? = some (.loop l))(es:Array Event):(Instr.getLoop b).events P w es=es.push ⟨.obj b,false,false⟩:=by
 simp[-Sem.runT_eq,Instr.getLoop,getObj,Sem.events,Sem.runT,bind,Sem.bind,h,Obj.isChan,pure]
theorem nQ{P:Program}{w:World}{b:Nat}{l l':Loop}(h:w.heap[b]? = some (.loop l))(es:Array Event):(setObj b (.loop l')).events P w es=es.push ⟨.obj b,true,false⟩:=by
 simp[-Sem.runT_eq,setObj,Sem.events,Sem.runT,h,Obj.isChan]
theorem wM{P:Program}{w:World}{b:Nat}{l:Loop}(h:w.heap[b]? = some (.loop l))(hs:l.state= .ready):∀e∈(Instr.beginRound b).events P w #[],jf b e:=by
 intro e he
 simp only[Instr.beginRound,Sem.events_bind,ft h,Result.evThen_ok,nM h,gu _ h,nQ h,hs,Sem.events_pure] at he
 simpa[jf] using he
theorem Bd{P:Program}{w:World}{b:Nat}{l:Loop}(h:w.heap[b]? = some (.loop l))(j:Option Code):∀e∈(Instr.endRound b j).events P w #[],jf b e:=by
 intro e he
 simp only[Instr.endRound,Sem.events_bind,ft h,Result.evThen_ok,nM h,gu _ h,nQ h,Sem.events_pure] at he
 simpa[jf] using he
theorem EY{P:Program}{w:World}{b:Nat}{l:Loop}(h:w.heap[b]? = some (.loop l))(hs:l.state≠ .busy):∀e∈(Instr.endLoop b).events P w #[],jf b e:=by
 intro e he
 have hb:(l.state==LoopState.busy)=false:=by simpa using hs
 simp only[Instr.endLoop,Sem.events_bind,ft h,Result.evThen_ok,nM h,hb,Bool.false_eq_true,if_false,Sem.run_pure,Sem.events_pure,gu _ h,nQ h] at he
 simpa[jf] using he
theorem jf.ok{Sh V:Nat→Prop}{b n t:Nat}{e:Event}(h:jf b e)(hb:b<t)(hv:V b∧¬Sh b):jw n (fun b=>V b∧¬Sh b) V t e:=by
 rcases h with rfl | rfl<;> exact⟨hb,rfl,.inr hv⟩
theorem rv{Sh V:Nat→Prop}{K:Kr}{σ:List aa}{w:World}{b:Nat}{l':Loop}(hlt:b<w.heap.size)(hv:V b∧¬Sh b){es:Array Event}(he:∀e∈es,jf b e):Gua Sh V w {w with heap:=w.heap.setIfInBounds b (.loop l')} es:=by
 have hsz:({w with heap:=w.heap.setIfInBounds b (.loop l')}:World).heap.size=w.heap.size:=by simp
 refine⟨by rw[hsz];exact Nat.le_refl _,fun q hq h=>?_,rfl,rfl,rfl,Nat.le_refl _,fun e hm=>by rw[hsz];exact(he e hm).ok hlt hv⟩
 show(w.heap.setIfInBounds b _)[q]? = _
 rw[Array.getElem?_setIfInBounds_ne]
 intro e;subst e;exact h.elim (fun h=>h hv.1) hv.2
theorem ru{Sh V:Nat→Prop}{K:Kr}{w:World}(hO:aU Sh V K σ w){r:Nat}{st:LoopState}{pend:Option Code}{fn:FuncId}{ps:Array Tmp}{as body:Code}{N:Nat}{fr:Fr}(hg:ai σ r=some (.loop st pend fn ps as body N fr)):V (K.φ r)∧¬Sh (K.φ r):=
 hO.obj _ (ot (r:=r) hg rfl)
theorem sj{Sh V:Nat→Prop}{K:Kr}{σ':List aa}{w w':World}(hO:aU Sh V K σ w)(hR':R K σ' w')(hs:Step K σ w K σ' w')(hz:w'.heap.size=w.heap.size):aU Sh V K σ' w':=by
 have:=hO.step hR' hs
 rw[hz,bk] at this;exact this
theorem nL{V:Nat→Prop}{K:Kr}{σ':List aa}{w w':World}(hs:Step K σ w K σ' w')(hz:w'.heap.size=w.heap.size):aI V K σ w V K σ' w':=by
 have:=aI.mY (V:=V) hs
 rw[hz,bk] at this;exact this
theorem fS(w:World)(b:Nat)(o:Obj):({w with heap:=w.heap.setIfInBounds b o}:World).heap.size=w.heap.size:=by simp
section
variable {P:Program}{main:Bool}{b c:Frame}{a:Act}{k:List Item}{cs:List Frame}{w w':World}
theorem rq{l:Nat}(hb:b.roundOf=some l)(hr:(Instr.beginRound l).run P w= .ok () w') :
  ∃es,stepG P main (G (b.atR a (.beginRound::k)) cs) w= .go (G (b.atR a k) cs) w' es∧∀e∈es,e∈(Instr.beginRound l).events P w #[]:=by
 refine⟨seen P b.fn (if b.kind== .early then #[] else(Instr.beginRound l).events P w #[]),?_,fun e he=>?_⟩
 ·simp[G,stepG,stepG.exec,stepG.apply,Frame.atR,hb,hr,Result.andThen,Frame.finish,GStep.after]
 ·have:=mem_seen he
  split at this
  ·simp at this
  ·exact this
theorem uQ{l:Nat}{v:Value}{j:Option Code}(hb:b.roundOf=some l)(hk:b.kind= .normal){todo:List Item}(hl:Leaves todo j)(hr:(Instr.endRound l j).run P w= .ok v w') :
  stepG P main (G (b.atR a todo) (c::cs)) w= .go (G (c.finish v) cs) w' (seen P b.fn ((Instr.endRound l j).events P w #[])):=by
 cases hl with
 | nil=>simp[G,stepG,stepG.exec,Frame.atR,hb,hk,hr,doReturn,GStep.after]
 | ret k=>simp[G,stepG,stepG.exec,Frame.atR,hb,hk,hr,doReturn,GStep.after]
 | exit id k hx=>simp[G,stepG,stepG.exec,Frame.atR,hb,hk,hx,hr,doReturn,GStep.after]
theorem pS{l:Nat}{jump:Option Code}(h:(Instr.endLoop l).run P w= .ok jump w') :
  stepG P main (G (b.atR a (.endRangeFunc l::k)) cs) w= .go (G (b.atR a ((jump.map Item.code).toList++k)) cs) w' (seen P b.fn ((Instr.endLoop l).events P w #[])):=by
 simp[G,stepG,stepG.exec,Frame.atR,h,GStep.after]
theorem aW.events{f:FuncId}(h:aW P f)(args:Array Value)(w:World)(es:Array Event):(callFunc f args).events P w es=es:=by
 obtain⟨fn,h1,h2,h3⟩:=h.fn
 have h2':¬fn.name= "runtime.NumGoroutine" :=by simpa using h2
 have h3':¬fn.body=none:=fun e=>by rw[e] at h3;cases h3
 simp[-Sem.runT_eq,callFunc,program,Sem.events,Sem.runT,bind,Sem.bind,h1,h2',h3',pure]
theorem tt{g:Operand}{ps:Array Tmp}{assign body:Code}{l:Nat}{mk:List Deferred}{w₁:World}{f:FuncId}{p q:Array Value}
  (he:(Instr.enterLoop b.fn a.tmps ps assign body b.roundOf).run P w= .ok (l,mk) w₁) (hv:a.eval g= .func (.func f) p q) (hC:aW P f) :
  stepG P main (G (b.atR a (.code (.rangeFunc g ps assign body)::k)) cs) w =
   .go (G (Frame.enter P f (p++#[.func (.yield l) #[] #[]]++q) .normal) (b.atR {a with defers:=mk++a.defers} (.inRangeFunc l::k)::cs)) w₁ (seen P b.fn ((Instr.enterLoop b.fn a.tmps ps assign body b.roundOf).events P w #[])++seen P b.fn #[]):=by
 have hev:=Frame.eval_atR b {a with defers:=mk++a.defers} (.inRangeFunc l::k)
 simp only[Frame.atR] at hev
 have hsem:(do let d ← resolve ({tmps:=a.tmps,defers:=mk++a.defers}:Act).eval {callee:= .value g,args:=#[.const (.func (.yield l) #[] #[])],argTypes:=#[]} 0;invoke d.target d.args:Sem Next)=callFunc f (p++#[.func (.yield l) #[] #[]]++q):=by
  have hv':({tmps:=a.tmps,defers:=mk++a.defers}:Act).eval g= .func (.func f) p q:=hv
  have hm:(#[.const (.func (.yield l) #[] #[])]:Array Operand).map ({tmps:=a.tmps,defers:=mk++a.defers}:Act).eval= #[.func (.yield l) #[] #[]]:=by simp[Act.eval]
  simp only[resolve,hv',Deferred.ofValue,hm]
  rfl
 have hrun:=hC.run (p++#[.func (.yield l) #[] #[]]++q) w₁
 have hevs:=hC.events (p++#[.func (.yield l) #[] #[]]++q) w₁ #[]
 simp only[G,stepG,stepG.exec,Frame.atR,Sem.runT_eq,he,GStep.after,hev,hsem,stepG.apply,hrun,hevs,if_true]
 cases b.kind<;> simp
end
theorem aj.beginRound{r:Nat}{k:List Item}{pend:Option Code}{fn:FuncId}{ps:Array Tmp}{as body:Code}{N:Nat}{fr fr0:Fr}(hg:ai σ r=some (.loop .ready pend fn ps as body N fr0))
  (h:aj E (some r) k fr (ax σ r (.loop .busy pend fn ps as body N fr0)) Q):aj E (some r) (.beginRound::k) fr σ Q:=by
 intro M hM K w V a b cs hb hR hO hF
 refine M.step rfl fun w₁ hre=>?_
 have hR1:=hR.rely hO hre
 have hO1:=hO.rely hre
 obtain⟨l,h1,h2,h3,h4,h5,h6,h7,h8,h9,_⟩:=hR1.oK hg
 obtain⟨r1,r2⟩:=h9 .busy l.pending
 have ax:ax σ r (.loop .busy l.pending fn ps as body N fr0)=ax σ r (.loop .busy pend fn ps as body N fr0):=by rw[h3]
 rw[ax] at r1 r2
 obtain⟨es,g1,g2⟩:=rq (P:=E.P) (main:=M.main) (a:=a) (k:=k) (cs:=cs) hb.2.1 (vm h1 h2)
 refine⟨_,_,es,g1,rv (K:=K) (σ:=σ) (bJ h1) (ru hO1 hg) fun e he=>wM h1 h2 e (g2 e he),?_⟩
 rw[fS,bk]
 exact aj.go (h M hM) (hb.mono r2.ext r2.len) r1 (sj hO1 r1 r2 (fS _ _ _)) (hF.mono r2.ext r2.len) ((aI.bN hre).trans (nL r2 (fS _ _ _))) rfl
theorem eY.of{r:Nat}{args:List AV}{pend:Option Code}{fn:FuncId}{ps:Array Tmp}{as body:Code}{fr:Fr}{Y:AV→List aa→Prop}(hg:ai σ r=some (.loop .ready pend fn ps as body E.N fr))(hl:args.length=ps.size)(hN:∀t∈ps.toList,t<E.N)
  (h:aj E (some r) [.code as,.beginRound,.code body] (sB fr ps.toList args) σ fun j fr2 σ2=>(∀t,j≠some (.goto t))∧∃pend',ai σ2 r=some (.loop .busy pend' fn ps as body E.N fr)∧Y (.bool j.isNone) (ax σ2 r (.loop (if j.isNone then .ready else .done) j fn ps as body E.N fr))):eY E.S r args σ Y:=by
 intro K w cargs hR hV
 obtain⟨l,h1,h2,h3,h4,h5,h6,h7,h8,h9,_⟩:=hR.oK hg
 have hr:r<σ.length:=(List.getElem?_eq_some_iff.1 hg).1
 have hcl:cargs.size=args.length:=by have:=hV.1;simpa using this.symm
 let tmps:=((ps.toList.zip cargs.toList).foldl (fun tmps p=>tmps.setIfInBounds p.1 p.2) l.tmps)
 refine⟨fn,tmps,as,body,?_,fun M hM V hO c cs=>?_⟩
 ·simp only[Instr.yield,Sem.run_bind,ft h1,Result.andThen_ok,h5,h4,h6,h7]
  rw[if_neg (by omega)]
  simp only[Sem.run_pure,tmps]
  congr 2
  rw[← Array.foldl_toList]
  simp
 ·let b:Frame:={(default:Frame) with fn:=fn,kind:= .normal,roundOf:=some (K.φ r)}
  have hb0:Frame.round (K.φ r) fn tmps as body .normal=b.atR {tmps:=tmps,defers:=[]} [.code as,.beginRound,.code body]:=by
   simp[Frame.round,Frame.atR,b]
  rw[hb0]
  refine M.bind (h M hM K w V {tmps:=tmps,defers:=[]} b (c::cs) ⟨hr,rfl,rfl⟩ hR hO (tn hN hV h8)) ?_
  rintro g' w2 V2 ⟨K2,σ2,fr2,a2,t2,j,ms,rfl,g1,⟨g3,pend',g3',g3''⟩,g4,g4',g5,g6,g7,g8⟩
  refine M.step rfl fun w₁ hre=>?_
  have hR1:=g4.rely g4' hre
  have hO1:=g4'.rely hre
  obtain⟨l2,k1,k2,k3,k4,k5,k6,k7,k8,k9,_⟩:=hR1.oK g3'
  have hφ:K2.φ r=K.φ r:=g6.ext.φ r hr
  obtain⟨m1,m2⟩:=k9 (if j.isNone then .ready else .done) j
  have hown:=ru hO1 g3'
  rw[hφ] at k1 m1 m2 hown
  have hend:=yu (P:=E.P) k1 j
  refine⟨_,_,_,uQ (P:=E.P) (main:=M.main) (b:=b) (a:=a2) (c:=c) (cs:=cs) rfl rfl g1 hend,rv (K:=K2) (σ:=σ2) (bJ k1) hown fun e he=>Bd k1 j e (mem_seen he),?_⟩
  rw[fS,bk]
  exact M.ret ⟨.bool j.isNone,.bool j.isNone,_,K2,rfl,g3'',.bool _,m1,sj hO1 m1 m2 (fS _ _ _),(g6.trans (.bN hre)).trans (nL m2 (fS _ _ _))⟩
theorem CR{M:cw E.P}(hM:E.S M){K:Kr}{σ3:List aa}{w:World}{V:Nat→Prop}{n:Nat}{st:LoopState}{pend:Option Code}{fn:FuncId}{ps:Array Tmp}{as body:Code}{N:Nat}{fr0:Fr}{k:List Item}{a:Act}{b:Frame}{cs:List Frame}{au:Goroutine→World→(Nat→Prop)→Prop}
  (hg:ai σ3 n=some (.loop st pend fn ps as body N fr0)) (hst:st≠ .busy) (hR:R K σ3 w) (hO:aU M.Sh V K σ3 w)
  (hk:∀w',R K (ax σ3 n .dead) w'→aU M.Sh V K (ax σ3 n .dead) w'→aI V K σ3 w V K (ax σ3 n .dead) w'→M.J (G (b.atR a ((pend.map Item.code).toList++k)) cs) w' V au) :
  M.J (G (b.atR a (.endRangeFunc (K.φ n)::k)) cs) w V au:=by
 refine M.step rfl fun w₁ hre=>?_
 have hR1:=hR.rely hO hre
 have hO1:=hO.rely hre
 obtain⟨l,k1,k2,k3,k4,k5,k6,k7,k8,_,k10⟩:=hR1.oK hg
 obtain⟨r4,s4⟩:=k10 {l with state:= .exhausted}
 have hend:=BF (P:=E.P) k1 (by rw[k2];exact hst)
 have hend:(Instr.endLoop (K.φ n)).run E.P w₁= .ok pend {w₁ with heap:=w₁.heap.setIfInBounds (K.φ n) (.loop {l with state:= .exhausted})}:=by rw[hend,k3]
 refine⟨_,_,_,pS (P:=E.P) (main:=M.main) (b:=b) (a:=a) (k:=k) (cs:=cs) hend,rv (K:=K) (σ:=σ3) (bJ k1) (ru hO1 hg) fun e he=>EY k1 (by rw[k2];exact hst) e (mem_seen he),?_⟩
 rw[fS,bk]
 exact hk _ r4 (sj hO1 r4 s4 (fS _ _ _)) ((aI.bN hre).trans (nL s4 (fS _ _ _)))
theorem aj.rangeFunc{f:Operand}{ps:Array Tmp}{as body:Code}{k:List Item}{fr:Fr}{g:FuncId}{p q:List AV}(hf:aH fr f=some (.fn (.func g) p q))
  (h:∀fn,ao E.S g (p++[.yield σ.length]++q) (σ++[.loop .ready none fn ps as body E.N fr]) fun v σ'=>∃st pend,st≠ .busy∧ai σ' σ.length=some (.loop st pend fn ps as body E.N fr)∧
   aj E none ((pend.map Item.code).toList++k) fr (ax σ' σ.length .dead) Q):aj E none (.code (.rangeFunc f ps as body)::k) fr σ Q:=by
 intro M hM K w V a b cs hb hR hO hF
 have hb:b.roundOf=none:=hb
 refine M.step rfl fun w₁ hre=>?_
 have hR1:=hR.rely hO hre
 have hO1:=hO.rely hre
 -- the block of the deferred calls
 let w1:=w₁.alloc (.deferred (some []))
 obtain⟨r1,s1⟩:=hR1.KO (.deferred (some [])) K (.refl _ _) rfl (fun b p v hv=> .inl hv)
 have hfree1:bj K σ w₁.heap.size:=fun r o hr hb'=>by have:=(hR1.obj r o hr).gF hb';omega
 have hh1:w1.heap[w₁.heap.size]? = some (.deferred (some [])):=heap_alloc_new w₁ _
 have hsz1:w1.heap.size=w₁.heap.size+1:=fc w₁ _
 -- the loop's record
 let rec0:Loop:={state:= .ready,pending:=none,fn:=b.fn,tmps:=a.tmps,params:=ps,assign:=as,body:=body,defers:=w₁.heap.size}
 let w2:=w1.alloc (.loop rec0)
 have hsz2:w2.heap.size=w1.heap.size+1:=fc w1 _
 obtain⟨r2,s2⟩:=r1.new (.loop .ready none b.fn ps as body E.N fr) (.loop rec0) (K.setφ σ.length w1.heap.size) (Ext.setφ K _ _) (fun _ _=>rfl) (fun b p v hv=> .inl hv) (fun b hb=>by
  have:b=(K.setφ σ.length w1.heap.size).φ σ.length:=hb
  simpa only[Kr.setφ,if_true] using this)
  ⟨rec0,by simp only[Kr.setφ,if_true];exact heap_alloc_new w1 _,rfl,rfl,rfl,rfl,rfl,rfl,hF.mono (Ext.setφ K _ _) (by omega)⟩
 have henter:(Instr.enterLoop b.fn a.tmps ps as body b.roundOf).run E.P w₁= .ok (w1.heap.size,[mark w₁.heap.size]) w2:=by
  rw[hb];rfl
 have hevs:(Instr.enterLoop b.fn a.tmps ps as body b.roundOf).events E.P w₁ #[]= #[]:=by
  rw[hb];rfl
 have hfv:=ak hF hf
 generalize hfe:a.eval f=fv at hfv
 cases hfv with
 | fn _ _ _ p' q' l1 l2 g1 g2=>
  have hA:=h b.fn
  have s12:=s1.trans s2
  refine⟨_,_,_,tt henter hfe hA.1,⟨s12.size,fun q hq _=>?_,s12.os,s12.tape,s12.output,s12.dr,fun e he=>?_⟩,?_⟩
  ·show(w1.heap.push _)[q]? = _
   rw[Array.getElem?_push,if_neg (by omega)]
   show(w₁.heap.push _)[q]? = _
   rw[Array.getElem?_push,if_neg (by omega)]
  ·rw[hevs] at he
   rcases Array.mem_append.1 he with he | he<;> (have:=mem_seen he;simp at this)
  have hO2:=hO1.step r2 s12
  have hn2:σ.length≤(σ++[aa.loop .ready none b.fn ps as body E.N fr]).length:=by simp
  have hVy:VR (K.setφ σ.length w1.heap.size) (σ++[aa.loop .ready none b.fn ps as body E.N fr]).length (.yield σ.length) (.func (.yield w1.heap.size) #[] #[]):=by
   have:=VR.yield (K:=K.setφ σ.length w1.heap.size) (n:=(σ++[aa.loop .ready none b.fn ps as body E.N fr]).length) σ.length (by simp)
   simpa only[Kr.setφ,if_true] using this
  have hp:VRs (K.setφ σ.length w1.heap.size) (σ++[aa.loop .ready none b.fn ps as body E.N fr]).length p p':=VRs.mono ⟨l1,g1⟩ s2.ext hn2
  have hq:VRs (K.setφ σ.length w1.heap.size) (σ++[aa.loop .ready none b.fn ps as body E.N fr]).length q q':=VRs.mono ⟨l2,g2⟩ s2.ext hn2
  have hargs:VRs (K.setφ σ.length w1.heap.size) (σ++[aa.loop .ready none b.fn ps as body E.N fr]).length (p++[.yield σ.length]++q) (p'.toArray++#[Value.func (.yield w1.heap.size) #[] #[]]++q'.toArray).toList:=by
   have:=(hp.append (VRs.cons hVy .nil)).append hq
   simpa using this
  have hcall:=hA.2 M hM (K.setφ σ.length w1.heap.size) w2 (ct V w₁.heap.size w2.heap.size) (p'.toArray++#[.func (.yield w1.heap.size) #[] #[]]++q'.toArray) .normal (b.atR {a with defers:=[mark w₁.heap.size]++a.defers} (.inRangeFunc w1.heap.size::k)::cs) r2 hO2 hargs
  refine M.bind hcall ?_
  rintro g' w3 V3 ⟨fr3,v,σ3,K3,rfl,_,hkd,hl,⟨st,pend,hst,hg3,hrun⟩,r3,hO3,s3⟩
  refine II hl hkd fun w4 c hre4 _=>?_
  rw[finish_atR_inRangeFunc]
  have hφ:K3.φ σ.length=w1.heap.size:=by
   rw[s3.ext.φ σ.length (by simp)];simp only[Kr.setφ,if_true]
  rw[← hφ]
  refine CR hM hg3 hst (r3.rely hO3 hre4) (hO3.rely hre4) fun w5 r5 hO5 s5=>?_
  have hK:aI (ct V w₁.heap.size w2.heap.size) (K.setφ σ.length w1.heap.size) (σ++[aa.loop .ready none b.fn ps as body E.N fr]) w2 V3 K3 (ax σ3 σ.length .dead) w5:=(s3.trans (.bN hre4)).trans s5
  have hKall:aI V K σ w V3 K3 (ax σ3 σ.length .dead) w5:=((aI.bN hre).trans (.mY s12)).trans hK
  refine M.bind (hrun M hM K3 w5 V3 {a with defers:=[mark w₁.heap.size]++a.defers} b cs hb r5 hO5 (hF.mono hKall.ext hKall.len)) ?_
  rintro g6 w6 V6 ⟨K6,σ6,fr6,a6,t6,j,ms,rfl,m1,m3,m4,m4',m5,m6,m7,m8⟩
  have hD2:bj (K.setφ σ.length w1.heap.size) (σ++[aa.loop .ready none b.fn ps as body E.N fr]) w₁.heap.size:=(s2.keep w₁.heap.size (by show w₁.heap.size<w1.heap.size;rw[hsz1];exact Nat.lt_succ_self _) hfree1).2.1
  have hVD:ct V w₁.heap.size w2.heap.size w₁.heap.size:= .inr ⟨Nat.le_refl _,by omega⟩
  have hkeep:=(hK.trans m6).keep w₁.heap.size (by omega) hVD hD2
  have hh2:w2.heap[w₁.heap.size]? = some (.deferred (some [])):=by
   show(w1.heap.push _)[w₁.heap.size]? = _
   rw[Array.getElem?_push,if_neg (by omega)];exact hh1
  refine M.ret ⟨K6,σ6,fr6,a6,t6,j,ms++[w₁.heap.size],rfl,m1,m3,m4,m4',m5,hKall.trans m6,by rw[m7];simp,?_,fun r hr=>?_,fun r hr=>?_,fun r hr=>?_,fun r hr=>?_⟩
  ·rw[List.nodup_append]
   refine⟨m8.nodup,by simp,fun x hx y hy=>?_⟩
   simp at hy;subst hy
   have:=m8.lo x hx;have:=hK.size;omega
  ·rcases List.mem_append.1 hr with hr | hr
   ·have:=m8.lo r hr;have:=hKall.size;omega
   ·simp at hr;subst hr;exact hre.size
  ·rcases List.mem_append.1 hr with hr | hr
   ·exact m8.heap r hr
   ·simp at hr;subst hr;rw[hkeep.1];exact hh2
  ·rcases List.mem_append.1 hr with hr | hr
   ·exact m8.free r hr
   ·simp at hr;subst hr;exact hkeep.2.1
  ·rcases List.mem_append.1 hr with hr | hr
   ·exact m8.own r hr
   ·simp at hr;subst hr
    exact⟨(hK.trans m6).sub _ hVD,fun hs=>by have:=hO1.sh _ hs;omega⟩
end Go.Mu
namespace Go.Mu
open Go Go.Conc
def Plain(v:AV):Prop:=∀n,Lt n v
theorem Plain.int{k:IntKind}{i:Int}:Plain (.int k i):=fun _=> .int _ _
theorem Plain.bool{b:Bool}:Plain (.bool b):=fun _=> .bool _
theorem Plain.agg{cs:List AV}(h:∀c∈cs,Plain c):Plain (.agg cs):=fun n=> .agg _ fun i hi=>h _ (List.getElem_mem hi) n
theorem Plain.tup{cs:List AV}(h:∀c∈cs,Plain c):Plain (.tup cs):=fun n=> .tup _ fun i hi=>h _ (List.getElem_mem hi) n
theorem Plain.iface{t:TypeId}{v:AV}(h:Plain v):Plain (.iface t v):=fun n=> .iface _ _ (h n)
theorem Plain.list{sz:Nat}{xs:List AV}(h:∀x∈xs,Plain (.agg x.cells)):Plain (.list .no sz xs):=fun n=> .list _ _ _ (fun id e=>by cases e) fun i j hi hj=>by
 cases h _ (List.getElem_mem hi) n with
 | agg _ h=>exact h j hj
theorem Plain.map{α:Type}{sz:Nat}{f:α→AV}{xs:List α}(h:∀x∈xs,Plain (.agg (f x).cells)):Plain (.list .no sz (xs.map f)):= .list fun y hy=>by
 obtain⟨x,hx,rfl⟩:=List.mem_map.1 hy;exact h x hx
theorem Plain.l8{k:IntKind}{i:Int}:Plain (.agg (AV.int k i).cells):= .agg (by simp[AV.cells];exact .int)
theorem Plain.fY{sz:Nat}{xs:List AV}(h:Plain (.list .no sz xs)):Plain (.agg (AV.list .no sz xs).cells):= .agg (by simp[AV.cells];exact h)
theorem Plain.ints{xs:List Int}:Plain (ints .no xs):= .map fun x _=> .l8
def wk0:AV→AV→Prop
 | .list t sz xs,.list t' sz' ys=>xs=ys∧(sz=sz'∨ys=[])∧(t'= .no∨t=t')
 | v,w=>v=w
def wkL(f:AV→AV→Prop):List AV→List AV→Prop
 | [],[]=>True
 | a::as,b::bs=>f a b∧wkL f as bs
 | _,_=>False
def wk1:AV→AV→Prop
 | .agg cs,.agg ds=>wkL wk0 cs ds
 | v,w=>wk0 v w
def wk:AV→AV→Prop
 | .tup cs,.tup ds=>wkL wk1 cs ds
 | v,w=>wk1 v w
theorem ya{v w:AV}(h:wk0 v w):dI v w:=by
 unfold wk0 at h
 split at h
 ·rename_i t sz xs t' sz' ys
  obtain⟨rfl,h1,h2⟩:=h
  intro K n c hv
  cases hv with
  | list _ _ _ a cap f hl ht ha hs h1' h=>
   have ht':rN K n t' xs.length a cap:=by
    rcases h2 with rfl | rfl
    ·trivial
    ·exact ht
   rcases h1 with rfl | rfl
   ·exact .list t' sz xs a cap f hl ht' ha hs h1' h
   ·exact .list t' sz' [] a cap f hl ht' (fun h=>absurd rfl h) (fun i hi=>by simp at hi) (fun i j hi=>by simp at hi) (fun i j hi=>by simp at hi)
 ·subst h;exact dI.refl _
theorem qp{f:AV→AV→Prop}:∀{cs ds:List AV},wkL f cs ds→cs.length=ds.length∧∀i (h:i<cs.length) (h':i<ds.length),f cs[i] ds[i]
 | [],[],_=>⟨rfl,fun i h=>by simp at h⟩
 | a::as,b::bs,h=>by
  obtain⟨h1,h2⟩:=h
  obtain⟨g1,g2⟩:=qp h2
  refine⟨by simp[g1],fun i a b=>?_⟩
  cases i with
  | zero=>exact h1
  | succ i=>exact g2 i (by simpa using a) (by simpa using b)
 | [],_::_,h=>h.elim
 | _::_,[],h=>h.elim
theorem yO{v w:AV}(h:wk1 v w):dI v w:=by
 unfold wk1 at h
 split at h
 ·obtain⟨g1,g2⟩:=qp h
  exact dI.agg g1 fun i a b=>ya (g2 i a b)
 ·exact ya h
theorem gp{v w:AV}(h:wk v w):dI v w:=by
 unfold wk at h
 split at h
 ·obtain⟨g1,g2⟩:=qp h
  exact dI.tup g1 fun i a b=>yO (g2 i a b)
 ·exact yO h
def jH(σ:List aa)(v:AV):AV→List aa→Prop:=fun v' σ'=>(∃junk,σ'=σ++junk)∧wk v' v
theorem Lz{σ l:List aa}{v v':AV}:jH σ v v' (σ++l)=wk v' v:=by
 unfold jH;exact propext ⟨fun h=>h.2,fun h=>⟨⟨_,rfl⟩,h⟩⟩
theorem Jj{σ:List aa}{v v':AV}:jH σ v v' σ=wk v' v:=by
 unfold jH;exact propext ⟨fun h=>h.2,fun h=>⟨⟨[],by simp⟩,h⟩⟩
@[congr] theorem SO{σ:List aa}{v a a':AV}{s s':List aa}(h1:a=a')(h2:s=s'):jH σ v a s=jH σ v a' s':=by rw[h1,h2]
@[congr] theorem UR{a a' b:AV}(h1:a=a'):wk a b=wk a' b:=by rw[h1]
theorem Si{cs ds:List AV}:wk (.tup cs) (.tup ds)=wkL wk1 cs ds:=rfl
theorem Ql{cs ds:List AV}:wk (.agg cs) (.agg ds)=wkL wk0 cs ds:=rfl
theorem QD{k k':IntKind}{i j:Int}:wk (.int k i) (.int k' j)=(AV.int k i= .int k' j):=rfl
theorem O3{i j:Bool}:wk (.bool i) (.bool j)=(AV.bool i= .bool j):=rfl
theorem Re{i j:ByteArray}:wk (.str i) (.str j)=(AV.str i= .str j):=rfl
theorem Lx{t t':TypeId}{i j:AV}:wk (.iface t i) (.iface t' j)=(AV.iface t i= .iface t' j):=rfl
theorem Oc{t t':Tok}{sz sz':Nat}{xs ys:List AV}:wk (.list t sz xs) (.list t' sz' ys)=(xs=ys∧(sz=sz'∨ys=[])∧(t'= .no∨t=t')):=rfl
theorem Pc{cs ds:List AV}:wk1 (.agg cs) (.agg ds)=wkL wk0 cs ds:=rfl
theorem Of{k k':IntKind}{i j:Int}:wk1 (.int k i) (.int k' j)=(AV.int k i= .int k' j):=rfl
theorem J8{i j:Bool}:wk1 (.bool i) (.bool j)=(AV.bool i= .bool j):=rfl
theorem PT{i j:ByteArray}:wk1 (.str i) (.str j)=(AV.str i= .str j):=rfl
theorem nV{t t':Tok}{sz sz':Nat}{xs ys:List AV}:wk1 (.list t sz xs) (.list t' sz' ys)=(xs=ys∧(sz=sz'∨ys=[])∧(t'= .no∨t=t')):=rfl
theorem Pu{k k':IntKind}{i j:Int}:wk0 (.int k i) (.int k' j)=(AV.int k i= .int k' j):=rfl
theorem LL{i j:Bool}:wk0 (.bool i) (.bool j)=(AV.bool i= .bool j):=rfl
theorem OB{i j:ByteArray}:wk0 (.str i) (.str j)=(AV.str i= .str j):=rfl
theorem Jy{t t':Tok}{sz sz':Nat}{xs ys:List AV}:wk0 (.list t sz xs) (.list t' sz' ys)=(xs=ys∧(sz=sz'∨ys=[])∧(t'= .no∨t=t')):=rfl
theorem OZ{f:AV→AV→Prop}:wkL f [] []=True:=rfl
theorem JH{f:AV→AV→Prop}{a b:AV}{as bs:List AV}:wkL f (a::as) (b::bs)=(f a b∧wkL f as bs):=rfl
theorem al.uL{E:Env}(hE:cm E){f:FuncId}{fn:Func}{c:Code}{args:List AV}{v:AV}(hp:Plain v)(kp:Nat→Bool)(hf:E.P.funcs[f]? = some fn)(hb:fn.body=some c)(hN:fn.ntmps=E.N)(hA:args.length≤E.N)
  (hC:aW E.P f) (hO:dG E [.code c]=true)
  (h:∀σ,ev E none 100000 [.code c] ⟨kp,[],number 0 args⟩ σ (dg E fn.results.toList (jH σ v))):al E.S f args v:=by
 intro σ Q hq
 refine ao.clean ((ao.uL hE kp hf hb hN hA hC hO (h σ)).mono fun v' σ' ⟨⟨junk,h1⟩,h2⟩=>⟨v,junk,h1,gp h2,hp _,hq⟩)
theorem ao.jS{E:Env}(hE:cm E){f:FuncId}{fn:Func}{c:Code}{args:List AV}{σ:List aa}{v:AV}(hp:Lt σ.length v){Q:AV→List aa→Prop}(hq:Q v σ)(kp:Nat→Bool)(hf:E.P.funcs[f]? = some fn)(hb:fn.body=some c)(hN:fn.ntmps=E.N)(hA:args.length≤E.N)
  (hC:aW E.P f) (hO:dG E [.code c]=true)
  (h:ev E none 100000 [.code c] ⟨kp,[],number 0 args⟩ σ (dg E fn.results.toList (jH σ v))):ao E.S f args σ Q:=
 ao.clean ((ao.uL hE kp hf hb hN hA hC hO h).mono fun v' σ' ⟨⟨junk,h1⟩,h2⟩=>⟨v,junk,h1,gp h2,hp,hq⟩)
section
variable {σ:List aa}{X:AV→List aa→Prop}
theorem kY{P:Program}{S:MC P}{g:FuncId}{as:List AV}{v:AV}:qy S g as σ X (some v)=fW X σ (some v):=by rw[rz];rfl
theorem GR{cs:List AV}:fW X σ (some (.agg cs))=X (.agg cs) σ:=rfl
theorem I3{cs:List AV}:fW X σ (some (.tup cs))=X (.tup cs) σ:=rfl
theorem CA{t:Tok}{sz:Nat}{cs:List AV}:fW X σ (some (.list t sz cs))=X (.list t sz cs) σ:=rfl
theorem BB{t:TypeId}{v:AV}:fW X σ (some (.iface t v))=X (.iface t v) σ:=rfl
theorem Kx{f:Fn}{p q:List AV}:fW X σ (some (.fn f p q))=X (.fn f p q) σ:=rfl
end
def vr(E:Env)(ro:Option Nat)(n:Nat)(k:List Item)(Q:au)(fr:Fr)(σ:List aa)(x y:Code)(c:Option AV):Prop:=match c with
 | some (.bool t)=>(t=true→ev E ro n (.code x::k) fr σ Q)∧(t=false→ev E ro n (.code y::k) fr σ Q)
 | _=>False
section
variable {E:Env}{ro:Option Nat}{n:Nat}{k:List Item}{Q:au}{fr:Fr}{σ:List aa}{x y:Code}
theorem GL:vr E ro n k Q fr σ x y (some (.bool true))=ev E ro n (.code x::k) fr σ Q:=by simp[vr]
theorem Dj:vr E ro n k Q fr σ x y (some (.bool false))=ev E ro n (.code y::k) fr σ Q:=by simp[vr]
theorem KV{c:Operand}:ev E ro (n+1) (.code (.cond c x y)::k) fr σ Q=vr E ro n k Q fr σ x y (aH fr c):=by
 rw[OP];unfold vr;rfl
end
section
variable {E:Env}{ro:Option Nat}{σ:List aa}{X:AV→List aa→Prop}
def exO(A:Prop)(f:List Item→Prop):Option (List Item)→Prop
 | some k=>f k
 | none=>A
@[congr] theorem UN{A:Prop}{f:List Item→Prop}{v v':Option (List Item)}(h:v=v'):exO A f v=exO A f v':=by rw[h]
theorem JO{A:Prop}{f:List Item→Prop}{k:List Item}:exO A f (some k)=f k:=rfl
theorem Lg{A:Prop}{f:List Item→Prop}:exO A f none=A:=rfl
theorem I9{n:Nat}{k:List Item}{fr:Fr}{Q:au}{id:Nat}:ev E ro (n+1) (.code (.exit id)::k) fr σ Q=exO (Q (some (.exit id)) fr σ) (fun k'=>ev E ro n k' fr σ Q) (exitTo id k):=by
 rw[Pw];cases exitTo id k<;> rfl
theorem FX{n:Nat}{k:List Item}{fr:Fr}{Q:au}{f:Operand}{p:Array Tmp}{x y:Code}:ev E ro (n+1) (.code (.rangeFunc f p x y)::k) fr σ Q=aj E ro (.code (.rangeFunc f p x y)::k) fr.eC σ Q:=rfl
theorem Ip{n:Nat}{k:List Item}{fr:Fr}{Q:au}:ev E ro (n+1) (.beginRound::k) fr σ Q=aj E ro (.beginRound::k) fr.eC σ Q:=rfl
def eM(X:AV→List aa→Prop)(σ:List aa)(b:Bool):Prop:=(b=true→X (.bool true) σ)∧(b=false→X (.bool false) σ)
@[congr] theorem Sw{b b':Bool}(h:b=b'):eM X σ b=eM X σ b':=by rw[h]
theorem ki{b:Bool}:fW X σ (some (.bool b))=eM X σ b:=rfl
theorem Et:eM X σ true=X (.bool true) σ:=by simp[eM]
theorem AU:eM X σ false=X (.bool false) σ:=by simp[eM]
theorem ye{p:Prop}[Decidable p]:eM X σ (decide p)=((p→X (.bool true) σ)∧(¬p→X (.bool false) σ)):=by simp[eM]
theorem GF{a b:Int}:eM X σ (a==b)=eM X σ (decide (a=b)):=by
 have:(a==b)=decide (a=b):=by rw[Bool.eq_iff_iff];simp
 rw[this]
theorem FJ{a b:Int}:eM X σ (a !=b)=eM X σ (!decide (a=b)):=by
 have:(a !=b)=!decide (a=b):=by rw[Bool.eq_iff_iff];simp
 rw[this]
theorem wP{p:Prop}[Decidable p]:eM X σ (!decide p)=((¬p→X (.bool true) σ)∧(p→X (.bool false) σ)):=by simp[eM]
theorem Eu{α:Type}[BEq α][LawfulBEq α]{a b:List α}:eM X σ (a==b)=((a=b→X (.bool true) σ)∧(¬a=b→X (.bool false) σ)):=by
 unfold eM
 have h2:((a==b)=false)=¬a=b:=by rw[← Bool.not_eq_true,beq_iff_eq]
 rw[h2];simp
def gK(E:Env)(all os:List Oper)(dst:Option Tmp)(fr:Fr)(Q:Fr→List aa→Prop)(σ:List aa)(type:TypeId)(op:Op)(want:Bool)(v:Option AV):Prop:=match v with
 | some (.bool b)=>(b=want→aP E fr σ type op (cz E all os dst fr Q))∧(b=!want→cz E all os dst fr Q (.tup []) σ)
 | some (.tup [])=>cz E all os dst fr Q (.tup []) σ
 | _=>False
def jJ(E:Env)(all:List Oper)(rs:List Nat)(L:List (Nat×List Nat))(dst:Option Tmp)(fr:Fr)(Q:Fr→List aa→Prop)(σ:List aa)(type:TypeId)(op:Op)(want:Bool)(v:Option AV):Prop:=match v with
 | some (.bool b)=>(b=want→aP E fr σ type op (br E all rs L dst fr Q))∧(b=!want→br E all rs L dst fr Q (.tup []) σ)
 | some (.tup [])=>br E all rs L dst fr Q (.tup []) σ
 | _=>False
def pI(fr:Fr):Option Tmp→Option AV
 | some d=>fr.get d
 | none=>none
theorem Gs{fr:Fr}{d:Tmp}:pI fr (some d)=fr.get d:=rfl
section
variable {all os:List Oper}{dst:Option Tmp}{fr:Fr}{Q:Fr→List aa→Prop}{type:TypeId}{op:Op}{rs:List Nat}{L:List (Nat×List Nat)}{want:Bool}
theorem Hf:gK E all os dst fr Q σ type op true (some (.bool true))=aP E fr σ type op (cz E all os dst fr Q):=by simp[gK]
theorem Ho:gK E all os dst fr Q σ type op false (some (.bool false))=aP E fr σ type op (cz E all os dst fr Q):=by simp[gK]
theorem ID:gK E all os dst fr Q σ type op false (some (.bool true))=cz E all os dst fr Q (.tup []) σ:=by simp[gK]
theorem IG:gK E all os dst fr Q σ type op true (some (.bool false))=cz E all os dst fr Q (.tup []) σ:=by simp[gK]
theorem Cq:gK E all os dst fr Q σ type op want (some (.tup []))=cz E all os dst fr Q (.tup []) σ:=by simp[gK]
theorem IF:jJ E all rs L dst fr Q σ type op true (some (.bool true))=aP E fr σ type op (br E all rs L dst fr Q):=by simp[jJ]
theorem FW:jJ E all rs L dst fr Q σ type op false (some (.bool false))=aP E fr σ type op (br E all rs L dst fr Q):=by simp[jJ]
theorem Ih:jJ E all rs L dst fr Q σ type op false (some (.bool true))=br E all rs L dst fr Q (.tup []) σ:=by simp[jJ]
theorem IE:jJ E all rs L dst fr Q σ type op true (some (.bool false))=br E all rs L dst fr Q (.tup []) σ:=by simp[jJ]
theorem ze{pos:String}{after:Array Edge}{j:Nat}:cX E all (⟨dst,op,type,pos,after,some (j,want)⟩::os) fr σ Q=gK E all os dst fr Q σ type op want (pI fr (dC all j)):=by
 rw[Bx]
 cases dC all j with
 | none=>rfl
 | some d=>rfl
theorem Bz{pos:String}{after:Array Edge}{j:Nat}:iq E all rs L fr σ Q (some ⟨dst,op,type,pos,after,some (j,want)⟩)=jJ E all rs L dst fr Q σ type op want (pI fr (dC all j)):=by
 rw[EJ]
 cases dC all j with
 | none=>rfl
 | some d=>rfl
def Es(E:Env)(σ:List aa)(X:AV→List aa→Prop)(f:Option AV)(as:Option (List AV)):Prop:=match f,as with
 | some (.fn (.func g) p q),some as=>fb E g (p++as++q) σ X
 | some (.yield r),some as=>eY E.S r as σ X
 | _,_=>False
theorem EV{f:Operand}{args:Array Operand}{ats:Array TypeId}:aP E fr σ type (.call ⟨.value f,args,ats⟩) X=Es E σ X (aH fr f) (bI fr args.toList):=rfl
theorem JU{g:FuncId}{p q as:List AV}:Es E σ X (some (.fn (.func g) p q)) (some as)=fb E g (p++as++q) σ X:=rfl
theorem A0{r:Nat}{as:List AV}:Es E σ X (some (.yield r)) (some as)=eY E.S r as σ X:=rfl
def Dz(E:Env)(σ:List aa)(X:AV→List aa→Prop)(v:AV)(as:List AV):Option FuncId→Prop
 | some g=>fb E g (v::as) σ X
 | none=>False
theorem kV{v:AV}{as:List AV}{g:FuncId}:Dz E σ X v as (some g)=fb E g (v::as) σ X:=rfl
def xD(E:Env)(σ:List aa)(X:AV→List aa→Prop)(m:String)(f:Option AV)(as:Option (List AV)):Prop:=match f,as with
 | some (.iface t v),some as=>Dz E σ X v as (E.mt t m)
 | _,_=>False
theorem yq{r:Operand}{m:String}{args:Array Operand}{ats:Array TypeId}:aP E fr σ type (.call ⟨.invoke r m,args,ats⟩) X=xD E σ X m (aH fr r) (bI fr args.toList):=by
 rw[Ao]
 cases aH fr r with
 | none=>rfl
 | some v=>
  cases bI fr args.toList with
  | none=>cases v<;> rfl
  | some l=>
   cases v with
   | iface t u=>simp only[xD];cases E.mt t m<;> rfl
   | _=>rfl
theorem la{m:String}{t:TypeId}{v:AV}{as:List AV}:xD E σ X m (some (.iface t v)) (some as)=Dz E σ X v as (E.mt t m):=rfl
end
end
def upd(sl:List (Nat×AV)):List (Nat×AV)→List (Nat×AV)
 | []=>sl
 | p::l=>upd (ins sl p.1 p.2) l
theorem aj.bE{E:Env}(hE:cm E){ro:Option Nat}{c:Code}{k:List Item}{kp:Nat→Bool}{tm sl:List (Nat×AV)}{σ:List aa}{Q:au}(n:Nat)(P:Nat→Prop)(lv:Nat→List (Nat×AV))(S:Nat→List aa→List aa)(j0:List aa)
  (hO:dG E (.code c:: .inLoop c::k)=true) (hσ:S 0 j0=σ) (h0:aw (upd sl (lv 0)) sl) (hP:P 0)
  (hs:∀i j,i<n→P i→(P (i+1)→∀j',aj E ro (.inLoop c::k) ⟨kp,[],upd sl (lv (i+1))⟩ (S (i+1) j') Q)→ev E ro 100000 (.code c:: .inLoop c::k) ⟨kp,[],upd sl (lv i)⟩ (S i j) Q)
  (he:∀j,P n→ev E ro 100000 (.code c:: .inLoop c::k) ⟨kp,[],upd sl (lv n)⟩ (S n j) Q):aj E ro (.code (.loop c)::k) ⟨kp,tm,sl⟩ σ Q:=by
 have key:∀d i j,i+d=n→P i→aj E ro (.code c:: .inLoop c::k) ⟨kp,[],upd sl (lv i)⟩ (S i j) Q:=by
  intro d
  induction d with
  | zero=>
   intro i j hi hp
   have:i=n:=by omega
   subst this
   exact aR hE hO (he j hp)
  | succ d ih=>intro i j hi hp;exact aR hE hO (hs i j (by omega) hp fun hp' j'=> .inLoop (ih (i+1) j' (by omega) hp'))
 subst hσ
 exact .loop (aj.sub (key n 0 j0 (by omega) hP) h0)
theorem aj.kL{E:Env}(hE:cm E){ro:Option Nat}{c:Code}{k:List Item}{kp:Nat→Bool}{tm sl:List (Nat×AV)}{σ:List aa}{Q:au}(n:Nat)(J:Nat→List aa→Prop)(lv:Nat→List (Nat×AV))
  (hO:dG E (.code c:: .inLoop c::k)=true) (h0:aw (upd sl (lv 0)) sl) (hJ:J 0 σ)
  (hs:∀i τ,i<n→J i τ→(∀τ',J (i+1) τ'→aj E ro (.inLoop c::k) ⟨kp,[],upd sl (lv (i+1))⟩ τ' Q)→ev E ro 100000 (.code c:: .inLoop c::k) ⟨kp,[],upd sl (lv i)⟩ τ Q)
  (he:∀τ,J n τ→ev E ro 100000 (.code c:: .inLoop c::k) ⟨kp,[],upd sl (lv n)⟩ τ Q):aj E ro (.code (.loop c)::k) ⟨kp,tm,sl⟩ σ Q:=by
 have key:∀d i τ,i+d=n→J i τ→aj E ro (.code c:: .inLoop c::k) ⟨kp,[],upd sl (lv i)⟩ τ Q:=by
  intro d
  induction d with
  | zero=>
   intro i τ hi hp
   have:i=n:=by omega
   subst this
   exact aR hE hO (he τ hp)
  | succ d ih=>intro i τ hi hp;exact aR hE hO (hs i τ (by omega) hp fun τ' hp'=> .inLoop (ih (i+1) τ' (by omega) hp'))
 exact .loop (aj.sub (key n 0 σ (by omega) hJ) h0)
theorem aj.ay{E:Env}{ro:Option Nat}{todo:List Item}{kp:Nat→Bool}{tm sl sl':List (Nat×AV)}{σ σ':List aa}{Q:au}(h:aj E ro todo ⟨kp,[],sl'⟩ σ' Q)(hσ:σ'=σ)(hs:aw sl' sl):aj E ro todo ⟨kp,tm,sl⟩ σ Q:=by
 subst hσ;exact h.sub hs
theorem getElem?_at{α:Type}{l m:List α}:(l++m)[l.length]? = m[0]? :=by rw[List.getElem?_append_right (by omega)];simp
theorem getElem?_at'{α:Type}{l m:List α}{k:Nat}:(l++m)[l.length+k]? = m[k]? :=by rw[List.getElem?_append_right (by omega)];simp
theorem RV{α:Type}{l m:List α}{x:α}:(l++m).set l.length x=l++m.set 0 x:=by rw[List.set_append_right _ _ (by omega)];simp
theorem OI{α:Type}{l m:List α}{k:Nat}{x:α}:(l++m).set (l.length+k) x=l++m.set k x:=by rw[List.set_append_right _ _ (by omega)];simp
theorem lb{α β:Type}(f:β→α→β)(b:β)(l:List α)(i:Nat)(h:i<l.length):(l.take (i+1)).foldl f b=f ((l.take i).foldl f b) l[i]:=by
 rw[List.take_succ_eq_append_getElem h,List.foldl_append];rfl
theorem Hb{α β:Type}(f:β→α→β)(b:β)(l:List α):(l.take l.length).foldl f b=l.foldl f b:=by rw[List.take_length]
theorem wrap64{n:Int}(h1: -9223372036854775808≤n)(h2:n<9223372036854775808):IntKind.i64.wrap n=n:=by
 rw[IntKind.wrap_i64];omega
end Go.Mu
namespace Go.Mu
open Go Go.Conc
theorem VRs.weaken{K:Kr}{n:Nat}:∀{l l':List AV} {cs:List Value},wkL wk l l'→VRs K n l cs→VRs K n l' cs
 | l,l',cs,h,hv=>by
  obtain⟨h1,h2⟩:=qp h
  refine⟨by rw[← h1];exact hv.1,fun i a b=>?_⟩
  have hi:i<l.length:=by omega
  exact gp (h2 i hi a) K n _ (hv.2 i hi b)
theorem al.weaken{P:Program}{S:MC P}{f:FuncId}{l l':List AV}{v:AV}(h:wkL wk l l')(hp:al S f l' v):al S f l v:=fun σ Q hq=>by
 have h0:=hp σ Q hq
 exact⟨h0.1,fun M hM K w V cargs kd cs hR hO hV=>h0.2 M hM K w V cargs kd cs hR hO (hV.weaken h)⟩
theorem ao.weaken{P:Program}{S:MC P}{f:FuncId}{l l':List AV}{σ:List aa}{Q:AV→List aa→Prop}(h:wkL wk l l')(h0:ao S f l' σ Q):ao S f l σ Q:=
 ⟨h0.1,fun M hM K w V cargs kd cs hR hO hV=>h0.2 M hM K w V cargs kd cs hR hO (hV.weaken h)⟩
theorem DV(b:Bool):(AV.bool b).cells=[AV.bool b]:=rfl
theorem F8(b:Bool):(AV.bool b).flat=true:=rfl
theorem l8(k:IntKind)(n:Int):(AV.int k n).cells=[AV.int k n]:=rfl
theorem JJ(k:IntKind)(n:Int):(AV.int k n).flat=true:=rfl
theorem Ga(s:ByteArray):(AV.str s).cells=[AV.str s]:=rfl
theorem Kk(s:ByteArray):(AV.str s).flat=true:=rfl
theorem G8(r o:Nat):(AV.ptr r o).cells=[AV.ptr r o]:=rfl
theorem La(r o:Nat):(AV.ptr r o).flat=true:=rfl
theorem zg  : (AV.nilptr).cells=[AV.nilptr]:=rfl
theorem Au  : (AV.nilptr).flat=true:=rfl
theorem EG(cs:List AV)(o:Nat):(AV.eptr cs o).cells=[AV.eptr cs o]:=rfl
theorem GP(cs:List AV)(o:Nat):(AV.eptr cs o).flat=true:=rfl
theorem fY(t:Tok)(z:Nat)(xs:List AV):(AV.list t z xs).cells=[AV.list t z xs]:=rfl
theorem FD(t:Tok)(z:Nat)(xs:List AV):(AV.list t z xs).flat=true:=rfl
theorem Fy(r o l:Nat):(AV.arr r o l).cells=[AV.arr r o l]:=rfl
theorem Je(r o l:Nat):(AV.arr r o l).flat=true:=rfl
theorem Fx(r l:Nat):(AV.vec r l).cells=[AV.vec r l]:=rfl
theorem Lv(r l:Nat):(AV.vec r l).flat=true:=rfl
theorem CN(r m s i o:Nat):(AV.vptr r m s i o).cells=[AV.vptr r m s i o]:=rfl
theorem Gq(r m s i o:Nat):(AV.vptr r m s i o).flat=true:=rfl
theorem G6(r:Nat):(AV.map r).cells=[AV.map r]:=rfl
theorem Li(r:Nat):(AV.map r).flat=true:=rfl
theorem yA  : (AV.nilmap).cells=[AV.nilmap]:=rfl
theorem AS  : (AV.nilmap).flat=true:=rfl
theorem I8(f:Fn)(p q:List AV):(AV.fn f p q).cells=[AV.fn f p q]:=rfl
theorem Om(f:Fn)(p q:List AV):(AV.fn f p q).flat=true:=rfl
theorem As(r:Nat):(AV.yield r).cells=[AV.yield r]:=rfl
theorem EO(r:Nat):(AV.yield r).flat=true:=rfl
theorem Bi  : (AV.nilfn).cells=[AV.nilfn]:=rfl
theorem Ee  : (AV.nilfn).flat=true:=rfl
theorem Aq(t:TypeId)(v:AV):(AV.iface t v).cells=[AV.iface t v]:=rfl
theorem C5(t:TypeId)(v:AV):(AV.iface t v).flat=true:=rfl
theorem uT  : (AV.niliface).cells=[AV.niliface]:=rfl
theorem wU  : (AV.niliface).flat=true:=rfl
theorem Gn(cs:List AV):(AV.agg cs).cells=cs:=rfl
theorem flat_agg(cs:List AV):(AV.agg cs).flat=true:=rfl
theorem PF{e:TI}{σ:List aa}{t:Tok}{sz:Nat}{xs:List AV}{sz':Nat}{ys:List AV}:vH false e σ t sz xs sz' ys=sm e σ t sz xs sz' ys:=rfl
theorem Jo{e:TI}{σ:List aa}{sz:Nat}{sz':Nat}{ys:List AV}:vH true e σ .full sz [] sz' ys=zH e σ sz' ys:=rfl
theorem Hc{e:TI}{σ:List aa}{sz:Nat}{x:AV}{xs:List AV}{sz':Nat}{ys:List AV}:vH true e σ .full sz (x::xs) sz' ys=sm e σ .full sz (x::xs) sz' ys:=rfl
theorem Lm{e:TI}{σ:List aa}{id:Nat}{sz:Nat}{xs:List AV}{sz':Nat}{ys:List AV}:vH true e σ (.own id) sz xs sz' ys=sm e σ (.own id) sz xs sz' ys:=rfl
structure Ty(α:Type) where
 dec:AV→Option α
 av:α→AV
 inv:∀{a x},dec a=some x→wk a (av x)
def fT{α:Type}(d:AV→Option α):List AV→Option (List α)
 | []=>some []
 | x::xs=>match d x,fT d xs with
  | some a,some l=>some (a::l)
  | _,_=>none
theorem lu{α:Type}{d:AV→Option α}{f:α→AV}(h:∀x,d (f x)=some x):∀l:List α,fT d (l.map f)=some l
 | []=>rfl
 | x::l=>by simp only[List.map_cons,fT,h,lu h l]
theorem jZ{α:Type}{d:AV→Option α}{f:α→AV}(h:∀a x,d a=some x→a=f x):∀{xs:List AV} {l:List α},fT d xs=some l→xs=l.map f
 | [],l,e=>by simp[fT] at e;subst e;rfl
 | x::xs,l,e=>by
  simp only[fT] at e
  split at e
  ·rename_i a l' h1 h2
   simp at e;subst e
   rw[List.map_cons,← h _ _ h1,← jZ h h2]
  ·cases e
def dA{α:Type}(n:Nat)(d:AV→Option α):AV→Option (List α)
 | .list _ sz xs=>if sz=n∨xs=[] then fT d xs else none
 | _=>none
theorem iL{α:Type}{n:Nat}{d:AV→Option α}{f:α→AV}(h:∀a x,d a=some x→a=f x){a:AV}{l:List α}(e:dA n d a=some l):wk0 a (.list .no n (l.map f)):=by
 unfold dA at e
 split at e
 ·split at e
  ·rename_i t sz xs hs
   have:=jZ h e
   subst this
   refine⟨rfl,?_,.inl rfl⟩
   rcases hs with h | h
   ·exact .inl h
   ·exact .inr h
  ·cases e
 ·cases e
theorem qn{α:Type}{n:Nat}{d:AV→Option α}{f:α→AV}(h:∀a x,d a=some x→a=f x){a:AV}{l:List α}(e:dA n d a=some l):wk a (.list .no n (l.map f)):=by
 have:=iL h e
 unfold dA at e
 split at e
 ·exact this
 ·cases e
theorem iR{α:Type}{n:Nat}{d:AV→Option α}{f:α→AV}(h:∀x,d (f x)=some x){t:Tok}{l:List α}:dA n d (.list t n (l.map f))=some l:=by
 simp[dA,lu h]
theorem LH{α:Type}{n sz:Nat}{d:AV→Option α}{t:Tok}:dA n d (.list t sz [])=some []:=by simp[dA,fT]
theorem Gu{α:Type}{n:Nat}{d:AV→Option α}{t:Tok}{x:AV}{xs:List AV}:dA n d (.list t n (x::xs))=fT d (x::xs):=by simp[dA]
theorem FU{α:Type}{d:AV→Option α}{x:AV}{xs:List AV}:fT d (x::xs)=(d x).bind fun a=>(fT d xs).bind fun l=>some (a::l):=by
 simp only[fT];cases d x<;> cases fT d xs<;> rfl
theorem JL{α:Type}{d:AV→Option α}:fT d []=some []:=rfl
def ln:AV→Option Int
 | .int .i64 n=>some n
 | _=>none
theorem nE(a:AV)(x:Int)(h:ln a=some x):a= .int .i64 x:=by
 unfold ln at h;split at h
 ·simp at h;subst h;rfl
 ·cases h
theorem LV{n:Int}:ln (.int .i64 n)=some n:=rfl
def tI:Ty Int:=⟨ln,.int .i64,fun{a x} h=>by rw[nE a x h];rfl⟩
def tIs:Ty (List Int):=⟨dA 1 ln,fun l=> .list .no 1 (l.map (.int .i64)),qn nE⟩
theorem Rk{a:AV}:tI.dec a=ln a:=rfl
theorem OQ{a:AV}:tIs.dec a=dA 1 ln a:=rfl
theorem HB{t:Tok}{l:List Int}:dA 1 ln (.list t 1 (l.map (.int .i64)))=some l:=iR (f:=AV.int .i64) fun _=>rfl
variable {α β γ δ ε:Type}{P:Program}{S:MC P}{n:FuncId}
def jh(A:Ty α)(f:α→Option AV):List AV→Option AV
 | [a]=>(A.dec a).bind f
 | _=>none
def cW(A:Ty α)(B:Ty β)(f:α→β→Option AV):List AV→Option AV
 | [a,b]=>(A.dec a).bind fun x=>(B.dec b).bind fun y=>f x y
 | _=>none
def jk(A:Ty α)(B:Ty β)(C:Ty γ)(f:α→β→γ→Option AV):List AV→Option AV
 | [a,b,c]=>(A.dec a).bind fun x=>(B.dec b).bind fun y=>(C.dec c).bind fun z=>f x y z
 | _=>none
theorem gB{A:Ty α}{f:α→Option AV}(h:∀x v,f x=some v→al S n [A.av x] v):∀xs v,jh A f xs=some v→al S n xs v:=by
 intro xs v e
 unfold jh at e
 split at e
 ·rename_i a
  obtain⟨x,h1,h2⟩:=Option.bind_eq_some_iff.1 e
  exact al.weaken (l':=[A.av x]) ⟨A.inv h1,trivial⟩ (h x v h2)
 ·cases e
theorem cj{A:Ty α}{B:Ty β}{f:α→β→Option AV}(h:∀x y v,f x y=some v→al S n [A.av x,B.av y] v):∀xs v,cW A B f xs=some v→al S n xs v:=by
 intro xs v e
 unfold cW at e
 split at e
 ·obtain⟨x,h1,e⟩:=Option.bind_eq_some_iff.1 e
  obtain⟨y,h2,e⟩:=Option.bind_eq_some_iff.1 e
  exact al.weaken (l':=[A.av x,B.av y]) ⟨A.inv h1,B.inv h2,trivial⟩ (h x y v e)
 ·cases e
theorem gM{A:Ty α}{B:Ty β}{C:Ty γ}{f:α→β→γ→Option AV}(h:∀x y z v,f x y z=some v→al S n [A.av x,B.av y,C.av z] v):∀xs v,jk A B C f xs=some v→al S n xs v:=by
 intro xs v e
 unfold jk at e
 split at e
 ·obtain⟨x,h1,e⟩:=Option.bind_eq_some_iff.1 e
  obtain⟨y,h2,e⟩:=Option.bind_eq_some_iff.1 e
  obtain⟨z,h3,e⟩:=Option.bind_eq_some_iff.1 e
  exact al.weaken (l':=[A.av x,B.av y,C.av z]) ⟨A.inv h1,B.inv h2,C.inv h3,trivial⟩ (h x y z v e)
 ·cases e
theorem leT{a b:Int}(h:a≤b):(a≤b)=True:=eq_true h
theorem leF{a b:Int}(h:¬a≤b):(a≤b)=False:=eq_false h
theorem ltT{a b:Int}(h:a<b):(a<b)=True:=eq_true h
theorem ltF{a b:Int}(h:¬a<b):(a<b)=False:=eq_false h
theorem eqT{a b:Int}(h:a=b):(a=b)=True:=eq_true h
theorem eqF{a b:Int}(h:¬a=b):(a=b)=False:=eq_false h
theorem Vb{a b:Nat}(h:a≤b):(a≤b)=True:=eq_true h
theorem VM{a b:Nat}(h:a<b):(a<b)=True:=eq_true h
theorem Uc{n:Int}(h1: -9223372036854775808≤n)(h2:n<9223372036854775808):IntKind.i64.wrap n=n:=wrap64 h1 h2
def tg(t:List Int)(i:Int):Int:=t.getD i.toNat 0
theorem E3{t:List Int}{x:Int}(h0:0≤x)(h1:x<t.length):(t.map (AV.int .i64))[x.toNat]? = some (.int .i64 (tg t x)):=by
 have:x.toNat<t.length:=by omega
 simp[tg,List.getElem?_eq_getElem this,List.getD]
theorem ix{t:List Int}{x:Int}(h0:0≤x)(h1:x<t.length):idx (t.map (AV.int .i64)) x=some (.int .i64 (tg t x)):=by
 unfold idx;rw[if_pos h0];exact E3 h0 h1
theorem bu{α:Type}{f:α→AV}{l:List α}{i:Nat}(h:i<l.length):idx (l.map f) (i:Int)=some (f l[i]):=qv h
theorem U5{a b:Nat}(h:¬a=b):(a=b)=False:=eq_false h
theorem Vr{a b:Nat}(h:¬a<b):(a<b)=False:=eq_false h
theorem U9{a b:Nat}(h:a=b):(a=b)=True:=eq_true h
theorem yR{α:Type}{f:α→AV}{t:List α}{n:Nat}(h:t.length≤n):(t.map f).take n=t.map f:=List.take_of_length_le (by simpa using h)
def bG(t:List Int)(i x:Int):List Int:=t.set i.toNat x
theorem Ci{off:Nat}{n:AV}{new:List AV}{c:AV}{cs:List AV}:putAt off (n::new) (c::cs)=(c::cs).take off++(n::new)++(c::cs).drop (off+(n::new).length):=rfl
theorem Fc{t:List Int}{a b c:AV}(h:t.length=3):putAt 0 (t.map (AV.int .i64)) [a,b,c]=t.map (AV.int .i64):=by
 simp[putAt,h]
theorem oU{t:List Int}{i x:Int}(h0:0≤i)(h:i<t.length):putAt i.toNat [AV.int .i64 x] (t.map (AV.int .i64))=(bG t i x).map (AV.int .i64):=by
 have hi:i.toNat<t.length:=by omega
 have hi':i.toNat<(t.map (AV.int .i64)).length:=by simpa using hi
 have e:∀(l:List AV) (v:AV),i.toNat<l.length→putAt i.toNat [v] l=l.set i.toNat v:=fun l v hl=>by
  simp only[putAt,List.length_cons,List.length_nil]
  rw[List.set_eq_take_append_cons_drop,if_pos hl];simp
 rw[e _ _ hi'];unfold bG;rw[List.map_set]
theorem b7{c:Prop}[Decidable c]{a v:AV}(h:(if c then some a else none)=some v):c∧a=v:=by
 split at h
 ·rename_i hc;simp at h;exact⟨hc,h⟩
 ·cases h
def en{α:Type}(k:Int):List (Int×α)→Nat→Option (Nat×α)
 | [],_=>none
 | (k',v)::m,i=>if k=k' then some (i,v) else en k m (i+1)
def eQ{α:Type}(m:List (Int×α))(k:Int)(v:α):List (Int×α):=match en k m 0 with
 | some (i,_)=>m.set i (k,v)
 | none=>m++[(k,v)]
def fR{α:Type}(m:List (Int×α))(k:Int):Option α:=(en k m 0).map (·.2)
theorem pM{α:Type}(f:α→AV)(k:Int):∀(m:List (Int×α)) (i:Nat),bw (.int .i64 k) (m.map fun p=>(AV.int .i64 p.1,f p.2)) i=some ((en k m i).map fun q=>(q.1,f q.2))
 | [],i=>rfl
 | (k',v)::m,i=>by
  simp only[List.map_cons,bw,eV,if_true,en]
  by_cases h:k=k'
  ·subst h;simp
  ·have:(k==k')=false:=by simpa using h
   rw[this,if_neg h]
   exact pM f k m (i+1)
theorem zb{α:Type}{f:α→AV}{r:Nat}{m:List (Int×α)}{k:Int}{v:α}{σ:List aa} :
  fL r (m.map fun p=>(AV.int .i64 p.1,f p.2)) (.int .i64 k) (f v) σ (bw (.int .i64 k) (m.map fun p=>(AV.int .i64 p.1,f p.2)) 0)=some (.tup [],ax σ r (.map ((eQ m k v).map fun p=>(AV.int .i64 p.1,f p.2)))):=by
 rw[pM]
 unfold eQ
 cases en k m 0 with
 | none=>simp[fL]
 | some q=>simp[fL,List.map_set]
theorem oV{α:Type}{f:α→AV}{m:List (Int×α)}{k:Int}{ok:Bool}{z:AV}{σ:List aa} :
  gy ok z σ (bw (.int .i64 k) (m.map fun p=>(AV.int .i64 p.1,f p.2)) 0)=some (match fR m k with
   | some v=>if ok then .tup [f v,.bool true] else f v
   | none=>if ok then .tup [z,.bool false] else z,σ):=by
 rw[pM]
 unfold fR
 cases en k m 0 with
 | none=>rfl
 | some q=>rfl
def fo(m:List (Int×Bool)):List (AV×AV):=m.map fun p=>(AV.int .i64 p.1,AV.bool p.2)
theorem Nk{m:List (Int×Bool)}{k:Int}{σ:List aa}:gy false (.bool false) σ (bw (.int .i64 k) (fo m) 0)=some (.bool ((fR m k).getD false),σ):=by
 have:=oV (f:=AV.bool) (m:=m) (k:=k) (ok:=false) (z:= .bool false) (σ:=σ)
 unfold fo;rw[this]
 cases fR m k<;> rfl
theorem RZ{m:List (Int×Bool)}{k:Int}{v:Bool}{r:Nat}{σ:List aa}:fL r (fo m) (.int .i64 k) (.bool v) σ (bw (.int .i64 k) (fo m) 0)=some (.tup [],ax σ r (.map (fo (eQ m k v)))):=zb (f:=AV.bool)
theorem sv{α:Type}{k:Int}:∀{m:List (Int×α)} {i j:Nat} {v:α},en k m i=some (j,v)→i≤j∧m[j-i]? = some (k,v)
 | [],i,j,v,h=>by simp[en] at h
 | (k',u)::m,i,j,v,h=>by
  simp only[en] at h
  split at h
  ·rename_i e;subst e;simp at h;obtain⟨rfl,rfl⟩:=h;exact⟨Nat.le_refl _,by simp⟩
  ·obtain⟨h1,h2⟩:=sv h
   refine⟨by omega,?_⟩
   have:j-i=(j- (i+1))+1:=by omega
   rw[this];simpa using h2
theorem yb{α:Type}{m:List (Int×α)}{k:Int}{v:α}(h:fR m k=some v):(k,v)∈m:=by
 unfold fR at h
 cases hf:en k m 0 with
 | none=>rw[hf] at h;cases h
 | some q=>
  obtain⟨j,u⟩:=q
  rw[hf] at h;simp at h;subst h
  exact List.mem_of_getElem? (sv hf).2
theorem KJ{α:Type}{m:List (Int×α)}{k:Int}{v:α}{p:Int×α}(h:p∈eQ m k v):p=(k,v)∨p∈m:=by
 unfold eQ at h
 split at h
 ·rcases List.mem_or_eq_of_mem_set h with h | h
  ·exact .inr h
  ·exact .inl h
 ·rcases List.mem_append.1 h with h | h
  ·exact .inr h
  ·simp at h;exact .inl h
end Go.Mu
