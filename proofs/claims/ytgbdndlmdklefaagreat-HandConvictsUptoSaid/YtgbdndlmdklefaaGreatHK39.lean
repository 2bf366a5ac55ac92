/- What a piece of the model's semantics does is told by the answers of the tape alone. -/
import Derived.Test.YtgbdndlmdklefaaGreatHK15
import Derived.Conc.Own4
import Derived.Conc.LoneCalls
import Derived.Test.YtgbdndlmdklefaaGreatHK06
set_option linter.unusedSimpArgs false
set_option linter.unusedVariables false
namespace Go.Mu
open Go Go.Conc
def re(w:World)(τ:Nat→Question→Nat)(d:Nat):World:={w with tape:=τ,drawn:=d}
@[simp] theorem VP(w:World)(τ:Nat→Question→Nat)(d:Nat):(re w τ d).heap=w.heap:=rfl
@[simp] theorem VQ(w:World)(τ τ':Nat→Question→Nat)(d d':Nat):re (re w τ d) τ' d'=re w τ' d':=rfl
def gz(w:World)(τ:Nat→Question→Nat)(d k:Nat):Prop:=∀j,j<k→τ (d+j)=w.tape (w.drawn+j)
theorem gz.less{w:World}{τ:Nat→Question→Nat}{d k k':Nat}(h:gz w τ d k)(hk:k'≤k):gz w τ d k':=fun j hj=>h j (by omega)
theorem gz.behind{w w1:World}{τ:Nat→Question→Nat}{d k:Nat}(h:gz w τ d (k-w.drawn))(ht:w1.tape=w.tape)(hd:w.drawn≤w1.drawn):gz w1 τ (d+(w1.drawn-w.drawn)) (k-w1.drawn):=fun j hj=>by
  have:=h (w1.drawn-w.drawn+j) (by omega)
  rw[ht,show w1.drawn+j=w.drawn+(w1.drawn-w.drawn+j) by omega,← this]
  congr 1;omega
def p9:Halt→Prop
  | .panic _ | .unsupported _ | .stuck _=>True
  | _=>False
def Qt(P:Program){α:Type}:Sem α→(α→Prop)→Prop
  | .pure a,Φ=>Φ a
  | .load _ _ k,Φ=>∀v,Qt P (k v) Φ
  | .store _ _ _ k,Φ=>Qt P k Φ
  | .new _ k,Φ=>∀r,Qt P (k r) Φ
  | .shape _ k,Φ=>∀s,Qt P (k s) Φ
  | .freeze _ _ k,Φ=>Qt P k Φ
  | .frozen _ k,Φ=>∀b,Qt P (k b) Φ
  | .getObj _ k,Φ=>∀o,Qt P (k o) Φ
  | .setObj _ _ k,Φ=>Qt P k Φ
  | .choose _ k,Φ=>∀n,Qt P (k n) Φ
  | .sys _ _,_=>False
  | .program k,Φ=>Qt P (k P) Φ
  | .mark m k,Φ=>m= .noRoom∧Qt P k Φ
  | .halt h,_=>p9 h
def eK(B:Nat)(e:Event):Prop:=(∀m,MemAct.ofEvent e= .mark m→Neutral m)∧(MemAct.ofEvent e).low B
theorem eK.mono{B B':Nat}{e:Event}(h:eK B e)(hB:B≤B'):eK B' e:=⟨h.1,MemAct.low_mono hB h.2⟩
def Result.at'{α:Type}:Result α→World
  | .ok _ w=>w
  | .halt _ w=>w
def Result.reR{α:Type}(r:Result α)(τ:Nat→Question→Nat)(d:Nat):Result α:=match r with
  | .ok a w=> .ok a (re w τ d)
  | .halt h w=> .halt h (re w τ d)
structure QR(P:Program){α:Type}(s:Sem α)(Φ:α→Prop)(w:World)(r:Result α):Prop where
  eq:s.run P w=r
  dr:w.drawn≤(Result.at' r).drawn
  tape:(Result.at' r).tape=w.tape
  size:w.heap.size≤(Result.at' r).heap.size
  ok:∀a w',r= .ok a w'→Φ a
  halt:∀h w',r= .halt h w'→p9 h
  re:∀τ d,gz w τ d ((Result.at' r).drawn-w.drawn)→s.run P (re w τ d)=Result.reR r τ (d+((Result.at' r).drawn-w.drawn))
  evs:∀es,∀e∈s.events P w es,e∈es∨eK (Result.at' r).heap.size e
theorem QR.step{P:Program}{α:Type}{s s':Sem α}{Φ:α→Prop}{w w1:World}{r:Result α}(h:QR P s' Φ w1 r)(hrun:s.run P w=s'.run P w1)(ht:w1.tape=w.tape)(hd:w.drawn≤w1.drawn)(hs:w.heap.size≤w1.heap.size)
    (hre:∀τ d,gz w τ d (w1.drawn-w.drawn)→s.run P (Mu.re w τ d)=s'.run P (Mu.re w1 τ (d+(w1.drawn-w.drawn))))
    (hev:∀es,∃es',s.events P w es=s'.events P w1 es'∧∀e∈es',e∈es∨eK w1.heap.size e):QR P s Φ w r:=by
  refine⟨hrun.trans h.eq,Nat.le_trans hd h.dr,h.tape.trans ht,Nat.le_trans hs h.size,h.ok,h.halt,fun τ d ha=>?_,fun es e he=>?_⟩
  · have hd1:=h.dr
    rw[hre τ d (ha.less (by omega)),h.re τ _ (ha.behind ht hd)]
    congr 1;omega
  · obtain⟨es',h1,h2⟩:=hev es
    rw[h1] at he
    rcases h.evs es' e he with g | g
    · exact(h2 e g).imp id fun g=>g.mono h.size
    · exact .inr g
theorem QR.end_{P:Program}{α:Type}{s:Sem α}{Φ:α→Prop}{w:World}{r:Result α}(hr:Result.at' r=w)(hrun:s.run P w=r)(hok:∀a w',r= .ok a w'→Φ a)(hh:∀h w',r= .halt h w'→p9 h)
    (hre:∀τ d,s.run P (Mu.re w τ d)=Result.reR r τ d) (hev:∀es,s.events P w es=es):QR P s Φ w r:=by
  refine⟨hrun,by rw[hr];exact Nat.le_refl _,by rw[hr],by rw[hr];exact Nat.le_refl _,hok,hh,fun τ d ha=>?_,fun es e he=>?_⟩
  · rw[hre,hr];simp
  · rw[hev] at he;exact .inl he
theorem yP{P:Program}{w:World}{at_:Addr}{u:TypeId}{k:Addr}{m:Bool}{x}(h:w.seen P at_ u k m= .ok x):at_.block<w.heap.size:=by
  apply Classical.byContradiction
  intro hn
  have hno:w.heap[at_.block]? = none:=Array.getElem?_eq_none (by omega)
  unfold World.seen at h
  rw[hno] at h
  simp only[bind,Except.bind,pure,Except.pure,throw,throwThe,MonadExceptOf.throw] at h
  repeat' split at h
  all_goals first | cases h | skip
theorem By{P:Program}{w:World}{a:Addr}{m:Bool}{v:Value}{l:List Addr}(h:w.farLoad P a m= .ok (v,l)):∀b∈l,b.block<w.heap.size:=by
  unfold World.farLoad at h
  split at h
  · rename_i at_ u hv
    split at h
    · rename_i r hr
      cases h
      unfold World.viewLoad at hr
      cases hs:w.seen P at_ u a m with
      | error e=>rw[hs] at hr;cases hr
      | ok x=>
        have hl:=yP hs
        rw[hs] at hr
        simp only[bind,Except.bind,pure,Except.pure,throw,throwThe,MonadExceptOf.throw] at hr
        repeat' split at hr
        all_goals first
          | (cases hr;done)
          | (cases hr;intro b hb;obtain⟨y,_,rfl⟩:=List.mem_map.1 hb;exact hl)
    · cases h
  · cases h
theorem qJ(P:Program)(w:World)(τ:Nat→Question→Nat)(d:Nat)(a:Addr)(v:Value)(m:Bool):(re w τ d).farStore P a v m=(w.farStore P a v m).map fun x=>(re x.1 τ d,x.2):=by
  unfold World.farStore
  have hh:(re w τ d).heap[a.block]? = w.heap[a.block]? :=rfl
  rw[hh]
  cases hb:w.heap[a.block]? with
  | none=>simp only[Except.map];unfold World.noCell;rw[hh]
  | some o=>
    cases o with
    | view at_ u=>
      simp only
      have e:(re w τ d).viewStore P at_ u a v m=(w.viewStore P at_ u a v m).map fun x=>(re x.1 τ d,x.2):=by
        unfold World.viewStore
        have hs:(re w τ d).seen P at_ u a m=w.seen P at_ u a m:=rfl
        rw[hs]
        simp only[bind,Except.bind,pure,Except.pure,throw,throwThe,MonadExceptOf.throw]
        repeat' split
        all_goals first | rfl | (simp_all [Except.map];done) | skip
        all_goals simp_all [Except.map,re]
      rw[e]
      cases w.viewStore P at_ u a v m with
      | error e=>rfl
      | ok x=>rfl
    | _=>simp only[Except.map];unfold World.noCell;rw[hh]
theorem z6{P:Program}{w w':World}{a:Addr}{v:Value}{m:Bool}{l:List Addr}(h:w.farStore P a v m= .ok (w',l)):(∀b∈l,b.block<w.heap.size)∧w'.tape=w.tape∧w'.drawn=w.drawn∧w'.heap.size=w.heap.size:=by
  unfold World.farStore at h
  split at h
  · rename_i at_ u hv
    split at h
    · rename_i r hr
      cases h
      unfold World.viewStore at hr
      cases hs:w.seen P at_ u a m with
      | error e=>
        rw[hs] at hr
        simp only[bind,Except.bind,pure,Except.pure,throw,throwThe,MonadExceptOf.throw] at hr
        split at hr<;> cases hr
      | ok x=>
        have hl:=yP hs
        rw[hs] at hr
        simp only[bind,Except.bind,pure,Except.pure,throw,throwThe,MonadExceptOf.throw] at hr
        repeat' split at hr
        all_goals first
          | (cases hr;done)
          | (cases hr;refine⟨fun b hb=>?_,rfl,rfl,by simp⟩;obtain⟨y,_,rfl⟩:=List.mem_map.1 hb;exact hl)
    · cases h
  · cases h
theorem oF{B:Nat}{a:Addr}{wr sy:Bool}(h:a.block<B):eK B ⟨.cell a,wr,sy⟩:=⟨fun m hm=>by simp[MemAct.ofEvent] at hm,h⟩
theorem vU{B r:Nat}{wr sy:Bool}(h:r<B):eK B ⟨.obj r,wr,sy⟩:=by
  cases wr<;> cases sy<;> exact⟨fun m hm=>by simp[MemAct.ofEvent] at hm,h⟩
theorem En{B:Nat}:eK B ⟨.mark .noRoom,false,true⟩:=⟨fun m hm=>by simp[MemAct.ofEvent] at hm;subst hm;rfl,trivial⟩
theorem Ai{w:World}{a:Addr}{v:Value}(h:w.cell? a=some v):a.block<w.heap.size:=by
  unfold World.cell? at h
  split at h
  · rename_i c e f hc;exact(Array.getElem?_eq_some_iff.1 hc).1
  · cases h
theorem lT{es:Array Event}{x:Event}{B:Nat}(h:eK B x):∀e∈es.push x,e∈es∨eK B e:=fun e he=>by
  rcases Array.mem_push.1 he with g | rfl
  · exact .inl g
  · exact .inr h
theorem BS{es:Array Event}{l:List Addr}{wr sy:Bool}{B:Nat}(h:∀b∈l,b.block<B):∀e∈es++l.toArray.map (⟨.cell ·,wr,sy⟩),e∈es∨eK B e:=fun e he=>by
  rcases Array.mem_append.1 he with g | g
  · exact .inl g
  · obtain⟨b,hb,rfl⟩:=Array.mem_map.1 g
    exact .inr (oF (h b (by simpa using hb)))
theorem Qt.run{P:Program}{α:Type}{s:Sem α}:∀{Φ:α→Prop} {w:World},Qt P s Φ→QR P s Φ w (s.run P w):=by
  induction s with
  | pure a=>intro Φ w h;exact QR.end_ rfl rfl (fun b w' e=>by simp only[Sem.run,Result.ok.injEq] at e;rw[← e.1];exact h) (fun h w' e=>by cases e) (fun τ d=>rfl) fun es=>rfl
  | load m a k ih=>
    intro Φ w h
    cases hc:w.cell? a with
    | some v=>
      have e1:(Sem.load m a k).run P w=(k v).run P w:=by simp only[Sem.run,hc]
      rw[e1]
      refine QR.step (ih v (h v)) e1 rfl (Nat.le_refl _) (Nat.le_refl _) (fun τ d ha=>?_) fun es=>⟨es.push ⟨.cell a,false,m== .atomic⟩,?_,lT (oF (Ai hc))⟩
      · have hc':(Mu.re w τ d).cell? a=some v:=hc
        simp only[Sem.run,hc',Nat.sub_self,Nat.add_zero]
      · unfold Sem.events;simp only[Sem.runT,hc]
    | none=>
      cases hf:w.farLoad P a (m== .atomic) with
      | error x=>
        have hx:p9 x:=by
          unfold World.farLoad at hf
          split at hf
          · split at hf
            · cases hf
            · cases hf;trivial
          · cases hf;unfold World.noCell;split<;> trivial
        have e1:(Sem.load m a k).run P w= .halt x w:=by simp only[Sem.run,hc,hf]
        rw[e1]
        refine QR.end_ rfl e1 (fun _ _ e=>by cases e) (fun _ _ e=>by cases e;exact hx) (fun τ d=>?_) fun es=>?_
        · have hc':(Mu.re w τ d).cell? a=none:=hc
          have hf':(Mu.re w τ d).farLoad P a (m== .atomic)= .error x:=hf
          simp only[Sem.run,hc',hf'];rfl
        · unfold Sem.events;simp only[Sem.runT,hc,hf]
      | ok p=>
        obtain⟨v,l⟩:=p
        have e1:(Sem.load m a k).run P w=(k v).run P w:=by simp only[Sem.run,hc,hf]
        rw[e1]
        refine QR.step (ih v (h v)) e1 rfl (Nat.le_refl _) (Nat.le_refl _) (fun τ d ha=>?_) fun es=>⟨es++l.toArray.map (⟨.cell ·,false,m== .atomic⟩),?_,BS (By hf)⟩
        · have hc':(Mu.re w τ d).cell? a=none:=hc
          have hf':(Mu.re w τ d).farLoad P a (m== .atomic)= .ok (v,l):=hf
          simp only[Sem.run,hc',hf',Nat.sub_self,Nat.add_zero]
        · unfold Sem.events;simp only[Sem.runT,hc,hf]
  | store m a v k ih=>
    intro Φ w h
    by_cases hv:v.oneCell'=true
    · have hrun:∀u:World,(Sem.store m a v k).run P u=match u.cell? a with
          | some _=>if u.frozen? a then .halt (.unsupported (.unsafePointer "a write to bytes that a string shares")) u else k.run P (u.setCell a v)
          | none=>match u.farStore P a v (m== .atomic) with
            | .ok (u,_)=>k.run P u
            | .error h=> .halt h u:=by
        intro u;cases v<;> first | rfl | (simp[Value.oneCell'] at hv)
      have hrunT:∀(u:World) es,(Sem.store m a v k).events P u es=match u.cell? a with
          | some _=>if u.frozen? a then es else k.events P (u.setCell a v) (es.push ⟨.cell a,true,m== .atomic⟩)
          | none=>match u.farStore P a v (m== .atomic) with
            | .ok (u,l)=>k.events P u (es++l.toArray.map (⟨.cell ·,true,m== .atomic⟩))
            | .error h=>es:=by
        intro u es
        cases v<;> first
          | (simp[Value.oneCell'] at hv;done)
          | (unfold Sem.events;simp only[Sem.runT]
             cases u.cell? a with
             | some _=>simp only[];split<;> rfl
             | none=>
               simp only[]
               cases u.farStore P a _ (m== .atomic) with
               | ok x=>rfl
               | error e=>rfl)
      cases hc:w.cell? a with
      | some x=>
        by_cases hfz:w.frozen? a=true
        · have e1:(Sem.store m a v k).run P w= .halt (.unsupported (.unsafePointer "a write to bytes that a string shares")) w:=by rw[hrun,hc];simp[hfz]
          rw[e1]
          refine QR.end_ rfl e1 (fun _ _ e=>by cases e) (fun _ _ e=>by cases e;trivial) (fun τ d=>?_) fun es=>?_
          · have hc':(Mu.re w τ d).cell? a=some x:=hc
            have hfz':(Mu.re w τ d).frozen? a=true:=hfz
            rw[hrun,hc'];simp[hfz'];rfl
          · rw[hrunT,hc];simp[hfz]
        · have hfz:w.frozen? a=false:=by simpa using hfz
          have e1:(Sem.store m a v k).run P w=k.run P (w.setCell a v):=by rw[hrun,hc];simp[hfz]
          have hsz:(w.setCell a v).heap.size=w.heap.size:=by simp[World.setCell]
          rw[e1]
          refine QR.step (ih h) e1 rfl (Nat.le_refl _) (by omega) (fun τ d ha=>?_) fun es=>⟨es.push ⟨.cell a,true,m== .atomic⟩,?_,lT (oF (by rw[hsz];exact Ai hc))⟩
          · have hc':(Mu.re w τ d).cell? a=some x:=hc
            have hfz':(Mu.re w τ d).frozen? a=false:=hfz
            rw[hrun,hc']
            simp only[hfz',Bool.false_eq_true,if_false]
            have:(w.setCell a v).drawn-w.drawn=0:=by show w.drawn-w.drawn=0;omega
            rw[this];rfl
          · rw[hrunT,hc];simp[hfz]
      | none=>
        cases hf:w.farStore P a v (m== .atomic) with
        | error x=>
          have hx:p9 x:=by
            unfold World.farStore at hf
            split at hf
            · split at hf
              · cases hf
              · cases hf;trivial
            · cases hf;unfold World.noCell;split<;> trivial
          have e1:(Sem.store m a v k).run P w= .halt x w:=by rw[hrun,hc];simp[hf]
          rw[e1]
          refine QR.end_ rfl e1 (fun _ _ e=>by cases e) (fun _ _ e=>by cases e;exact hx) (fun τ d=>?_) fun es=>?_
          · have hc':(Mu.re w τ d).cell? a=none:=hc
            rw[hrun,hc',qJ,hf];rfl
          · rw[hrunT,hc];simp[hf]
        | ok p=>
          obtain⟨w1,l⟩:=p
          have e1:(Sem.store m a v k).run P w=k.run P w1:=by rw[hrun,hc];simp[hf]
          obtain⟨g1,g2,g3,g4⟩:=z6 hf
          rw[e1]
          refine QR.step (ih h) e1 g2 (by omega) (by omega) (fun τ d ha=>?_) fun es=>⟨es++l.toArray.map (⟨.cell ·,true,m== .atomic⟩),?_,BS (by rw[g4];exact g1)⟩
          · have hc':(Mu.re w τ d).cell? a=none:=hc
            rw[hrun,hc',qJ,hf]
            have:w1.drawn-w.drawn=0:=by omega
            rw[this];rfl
          · rw[hrunT,hc];simp[hf]
    · have hrun:∀u:World,(Sem.store m a v k).run P u= .halt (.stuck "store: not the value of one cell") u:=by
        intro u;cases v<;> first | rfl | (simp[Value.oneCell'] at hv)
      rw[hrun]
      refine QR.end_ rfl (hrun w) (fun _ _ e=>by cases e) (fun _ _ e=>by cases e;trivial) (fun τ d=>hrun _) fun es=>?_
      cases v<;> first | rfl | (simp[Value.oneCell'] at hv)
  | new o k ih=>
    intro Φ w h
    have e1:(Sem.new o k).run P w=(k w.heap.size).run P {w with heap:=w.heap.push o}:=rfl
    rw[e1]
    refine QR.step (ih _ (h _)) e1 rfl (Nat.le_refl _) (by simp) (fun τ d ha=>?_) fun es=>⟨es,rfl,fun e he=> .inl he⟩
    show(k w.heap.size).run P _=_
    have:({w with heap:=w.heap.push o}:World).drawn-w.drawn=0:=by show w.drawn-w.drawn=0;omega
    rw[this];rfl
  | shape r k ih=>
    intro Φ w h
    have e1:(Sem.shape r k).run P w=(k (w.shape? r)).run P w:=rfl
    rw[e1]
    exact QR.step (ih _ (h _)) e1 rfl (Nat.le_refl _) (Nat.le_refl _) (fun τ d ha=>by rw[Nat.sub_self];rfl) fun es=>⟨es,rfl,fun e he=> .inl he⟩
  | freeze a n k ih=>
    intro Φ w h
    have e1:(Sem.freeze a n k).run P w=k.run P (w.freeze a n):=rfl
    have h1:(w.freeze a n).tape=w.tape∧(w.freeze a n).drawn=w.drawn∧(w.freeze a n).heap.size=w.heap.size:=by
      unfold World.freeze;split
      · exact⟨rfl,rfl,rfl⟩
      · exact⟨rfl,rfl,by simp⟩
    rw[e1]
    refine QR.step (ih h) e1 h1.1 (by omega) (by omega) (fun τ d ha=>?_) fun es=>⟨es,rfl,fun e he=> .inl he⟩
    have e2:(Mu.re w τ d).freeze a n=Mu.re (w.freeze a n) τ d:=by
      unfold World.freeze;split<;> rfl
    show k.run P ((Mu.re w τ d).freeze a n)=_
    rw[e2,h1.2.1,Nat.sub_self];rfl
  | frozen a k ih=>
    intro Φ w h
    have e1:(Sem.frozen a k).run P w=(k (w.frozen? a)).run P w:=rfl
    rw[e1]
    exact QR.step (ih _ (h _)) e1 rfl (Nat.le_refl _) (Nat.le_refl _) (fun τ d ha=>by rw[Nat.sub_self];rfl) fun es=>⟨es,rfl,fun e he=> .inl he⟩
  | getObj r k ih=>
    intro Φ w h
    cases ho:w.heap[r]? with
    | none=>
      have e1:∀u:World,u.heap=w.heap→(Sem.getObj r k).run P u= .halt (.stuck "getObj: no such block") u:=fun u hu=>by simp only[Sem.run,hu,ho]
      rw[e1 w rfl]
      refine QR.end_ rfl (e1 w rfl) (fun _ _ e=>by cases e) (fun _ _ e=>by cases e;trivial) (fun τ d=>e1 _ rfl) fun es=>?_
      unfold Sem.events;simp only[Sem.runT,ho]
    | some o=>
      by_cases hcl:∃c T f,o= .cells c T f
      · obtain⟨c,T,f,rfl⟩:=hcl
        have e1:∀u:World,u.heap=w.heap→(Sem.getObj r k).run P u= .halt (.stuck "getObj: a row of cells") u:=fun u hu=>by simp only[Sem.run,hu,ho]
        rw[e1 w rfl]
        refine QR.end_ rfl (e1 w rfl) (fun _ _ e=>by cases e) (fun _ _ e=>by cases e;trivial) (fun τ d=>e1 _ rfl) fun es=>?_
        unfold Sem.events;simp only[Sem.runT,ho]
      · have e1:∀u:World,u.heap=w.heap→(Sem.getObj r k).run P u=(k o).run P u:=fun u hu=>by
          simp only[Sem.run,hu,ho]
          cases o<;> first | rfl | exact(hcl ⟨_,_,_,rfl⟩).elim
        rw[e1 w rfl]
        refine QR.step (ih _ (h _)) (e1 w rfl) rfl (Nat.le_refl _) (Nat.le_refl _) (fun τ d ha=>by rw[Nat.sub_self];exact e1 _ rfl) fun es=>⟨es.push ⟨.obj r,false,o.isChan⟩,?_,lT (vU (Array.getElem?_eq_some_iff.1 ho).1)⟩
        unfold Sem.events;simp only[Sem.runT,ho]
        cases o<;> first | rfl | exact(hcl ⟨_,_,_,rfl⟩).elim
  | setObj r o k ih=>
    intro Φ w h
    cases ho:w.heap[r]? with
    | none=>
      have e1:∀u:World,u.heap=w.heap→(Sem.setObj r o k).run P u= .halt (.stuck "setObj: no such block") u:=fun u hu=>by simp only[Sem.run,hu,ho]
      rw[e1 w rfl]
      refine QR.end_ rfl (e1 w rfl) (fun _ _ e=>by cases e) (fun _ _ e=>by cases e;trivial) (fun τ d=>e1 _ rfl) fun es=>?_
      unfold Sem.events;simp only[Sem.runT,ho]
    | some o'=>
      by_cases hcl:∃c T f,o'= .cells c T f
      · obtain⟨c,T,f,rfl⟩:=hcl
        have e1:∀u:World,u.heap=w.heap→(Sem.setObj r o k).run P u= .halt (.stuck "setObj: a row of cells") u:=fun u hu=>by simp only[Sem.run,hu,ho]
        rw[e1 w rfl]
        refine QR.end_ rfl (e1 w rfl) (fun _ _ e=>by cases e) (fun _ _ e=>by cases e;trivial) (fun τ d=>e1 _ rfl) fun es=>?_
        unfold Sem.events;simp only[Sem.runT,ho]
      · have e1:∀u:World,u.heap=w.heap→(Sem.setObj r o k).run P u=k.run P {u with heap:=u.heap.setIfInBounds r o}:=fun u hu=>by
          simp only[Sem.run,hu,ho]
          cases o'<;> first | rfl | exact(hcl ⟨_,_,_,rfl⟩).elim
        rw[e1 w rfl]
        refine QR.step (ih h) (e1 w rfl) rfl (Nat.le_refl _) (by simp) (fun τ d ha=>?_) fun es=>⟨es.push ⟨.obj r,true,o.isChan⟩,?_,lT (vU (by simpa using(Array.getElem?_eq_some_iff.1 ho).1))⟩
        · rw[e1 (Mu.re w τ d) rfl]
          have:({w with heap:=w.heap.setIfInBounds r o}:World).drawn-w.drawn=0:=by show w.drawn-w.drawn=0;omega
          rw[this];rfl
        · unfold Sem.events;simp only[Sem.runT,ho]
          cases o'<;> first | rfl | exact(hcl ⟨_,_,_,rfl⟩).elim
  | choose q k ih=>
    intro Φ w h
    by_cases hf:q.forced=true
    · have e1:∀u:World,(Sem.choose q k).run P u=(k 0).run P u:=fun u=>by simp only[Sem.run,hf,if_true]
      rw[e1 w]
      refine QR.step (ih _ (h _)) (e1 w) rfl (Nat.le_refl _) (Nat.le_refl _) (fun τ d ha=>by rw[Nat.sub_self];exact e1 _) fun es=>⟨es,?_,fun e he=> .inl he⟩
      unfold Sem.events;simp only[Sem.runT,hf,if_true]
    · have e1:∀u:World,(Sem.choose q k).run P u=(k (q.cut (u.tape u.drawn q))).run P {u with drawn:=u.drawn+1}:=fun u=>by simp only[Sem.run,hf];rfl
      rw[e1 w]
      refine QR.step (ih _ (h _)) (e1 w) rfl (Nat.le_add_right _ _) (Nat.le_refl _) (fun τ d ha=>?_) fun es=>⟨es,?_,fun e he=> .inl he⟩
      · have hk:({w with drawn:=w.drawn+1}:World).drawn-w.drawn=1:=by show w.drawn+1-w.drawn=1;omega
        rw[hk] at ha⊢
        have h0:=ha 0 (by omega)
        rw[e1]
        show(k (q.cut (τ d q))).run P _=_
        simp only[Nat.add_zero] at h0
        rw[h0];rfl
      · unfold Sem.events;simp only[Sem.runT,hf];rfl
  | sys c k ih=>intro Φ w h;exact h.elim
  | program k ih=>
    intro Φ w h
    exact QR.step (ih P h) rfl rfl (Nat.le_refl _) (Nat.le_refl _) (fun τ d ha=>by rw[Nat.sub_self];rfl) fun es=>⟨es,rfl,fun e he=> .inl he⟩
  | mark m k ih=>
    intro Φ w h
    obtain⟨rfl,h⟩:=h
    exact QR.step (ih h) rfl rfl (Nat.le_refl _) (Nat.le_refl _) (fun τ d ha=>by rw[Nat.sub_self];rfl) fun es=>⟨es.push ⟨.mark .noRoom,false,true⟩,rfl,lT En⟩
  | halt h=>intro Φ w h;exact QR.end_ rfl rfl (fun _ _ e=>by cases e) (fun _ _ e=>by cases e;exact h) (fun τ d=>rfl) fun es=>rfl
end Go.Mu
namespace Go.Mu
open Go Go.Conc
def gg(L:FuncId→Bool):Next→Prop
 | .value _ | .skip=>True
 | .enter f _=>L f=true
 | _=>False
def oX(P:Program)(L:FuncId→Bool)(o:Oper):Prop:=(∀fr:Frame,Qt P (execOp fr.eval o) (gg L))∧∀c,o.op≠ .defer c
def jF(P:Program)(L:FuncId→Bool):Code→Prop
 | .region _ ops _=>∀o∈ops,oX P L o
 | .seq a b | .cond _ a b=>jF P L a∧jF P L b
 | .block _ c | .loop c | .scope c=>jF P L c
 | .skip | .label _ | .exit _ | .goto _ | .ret=>True
 | .refuse _=>True
 | .rangeFunc .. =>False
def ew(P:Program)(L:FuncId→Bool):Item→Prop
 | .code c | .inLoop c | .inScope c=>jF P L c
 | .inBlock _=>True
 | .inRegion ops _=>∀o∈ops,oX P L o
 | _=>False
def sK(P:Program)(fn:Func):Prop:=∀tmps,∃v,∀w,(results fn tmps).run P w= .ok v w∧∀es,(results fn tmps).events P w es=es
theorem sK.of_flat{P:Program}{fn:Func}(h:fn.results= #[]∨(∃t,fn.results= #[.tmp t])∨∃t u,fn.results= #[.tmp t,.tmp u]):sK P fn:=fun tmps=>by
 rcases h with h | ⟨t,h⟩ | ⟨t,u,h⟩
 ·exact⟨_,fun w=>⟨results_none h _ P w,events_results_none h _⟩⟩
 ·exact⟨_,fun w=>⟨results_tmp h _ P w,events_results_tmp h _⟩⟩
 ·exact⟨_,fun w=>⟨results_tmp2 h _ P w,events_results_tmp2 h _⟩⟩
structure LOK(P:Program)(L:FuncId→Bool):Prop where
 fn:∀f,L f=true→∃fn c,P.funcs[f]? = some fn∧(fn.name== "runtime.NumGoroutine")=false∧fn.body=some c∧jF P L c∧sK P fn
 step:∀g,P.stepOf g=none
 ahead:P.follows .staticDataAhead=true
structure cB(P:Program)(L:FuncId→Bool)(fr:Frame):Prop where
 fn:L fr.fn=true
 todo:∀x∈fr.todo,ew P L x
 defers:fr.defers=[]
 round:fr.roundOf=none
 kind:fr.kind= .normal
def mO(kd:CallKind)(cs:List Frame):List Frame→List Frame
 | []=>cs
 | [c]=>{c with kind:=kd}::cs
 | c::r=>c::mO kd cs r
def du(kd:CallKind)(fr:Frame):List Frame→Frame
 | []=>{fr with kind:=kd}
 | _::_=>fr
def mkG(kd:CallKind)(cs:List Frame)(fr:Frame)(rest:List Frame):Goroutine:=G (du kd fr rest) (mO kd cs rest)
structure jv(P:Program)(fr:Frame)(rest:List Frame)(w:World)(fr':Frame)(rest':List Frame)(w':World):Prop where
 dr:w.drawn≤w'.drawn
 tape:w'.tape=w.tape
 size:w.heap.size≤w'.heap.size
 go:∀τ d,gz w τ d (w'.drawn-w.drawn)→∀kd cs,∃es,stepG P true (mkG kd cs fr rest) (re w τ d)= .go (mkG kd cs fr' rest') (re w' τ (d+(w'.drawn-w.drawn))) es∧∀e∈es,eK w'.heap.size e
def zx(P:Program)(fr:Frame)(rest:List Frame)(w:World):Prop:=
 ∀τ d,(∀k,gz w τ d k)→∀kd cs,∃o w' es,stepG P true (mkG kd cs fr rest) (re w τ d)= .ended o w' es
theorem EA(w:World)(k:Nat):gz w w.tape w.drawn k:=fun j hj=>rfl
theorem jv.plain{P:Program}{fr:Frame}{rest:List Frame}{w:World}{fr':Frame}{rest':List Frame}{w':World}(h:jv P fr rest w fr' rest' w')(kd:CallKind)(cs:List Frame):∃es,stepG P true (mkG kd cs fr rest) w= .go (mkG kd cs fr' rest') w' es∧∀e∈es,eK w'.heap.size e:=by
 obtain⟨es,h1,h2⟩:=h.go w.tape w.drawn (EA _ _) kd cs
 have e:re w' w.tape (w.drawn+(w'.drawn-w.drawn))=w':=by
  have:=h.dr
  rw[show w.drawn+(w'.drawn-w.drawn)=w'.drawn by omega,← h.tape];rfl
 rw[e] at h1
 exact⟨es,h1,h2⟩
variable {P:Program}{L:FuncId→Bool}{fr:Frame}{rest:List Frame}{w:World}
theorem jv.still{fr':Frame}{rest':List Frame}(h:∀w kd cs,stepG P true (mkG kd cs fr rest) w= .go (mkG kd cs fr' rest') w #[]):jv P fr rest w fr' rest' w:=
 ⟨Nat.le_refl _,rfl,Nat.le_refl _,fun τ d _ kd cs=>⟨#[],by rw[Nat.sub_self,Nat.add_zero];exact h _ _ _,fun e he=>by simp at he⟩⟩
theorem zx.still(h:∀w kd cs,∃o w' es,stepG P true (mkG kd cs fr rest) w= .ended o w' es):zx P fr rest w:=fun τ d _ kd cs=>h _ _ _
theorem jM{kd:CallKind}{cs:List Frame}(hm:fr.mode= .run)(u:World):stepG P true (mkG kd cs fr rest) u=stepG.exec P true true (du kd fr rest) (mO kd cs rest) none u:=by
 unfold mkG G stepG
 have:(du kd fr rest).mode= .run:=by cases rest<;> exact hm
 simp only[this]
@[simp] theorem fi{kd:CallKind}:(du kd fr rest).todo=fr.todo:=by cases rest<;> rfl
@[simp] theorem kC{kd:CallKind}:(du kd fr rest).tmps=fr.tmps:=by cases rest<;> rfl
@[simp] theorem qG{kd:CallKind}:(du kd fr rest).fn=fr.fn:=by cases rest<;> rfl
@[simp] theorem Sr{kd:CallKind}:(du kd fr rest).defers=fr.defers:=by cases rest<;> rfl
@[simp] theorem ld{kd:CallKind}:(du kd fr rest).roundOf=fr.roundOf:=by cases rest<;> rfl
@[simp] theorem UO{kd:CallKind}:(du kd fr rest).mode=fr.mode:=by cases rest<;> rfl
@[simp] theorem Gk{kd:CallKind}:(du kd fr rest).eval=fr.eval:=by cases rest<;> rfl
theorem Hq{kd:CallKind}{todo:List Item}:({du kd fr rest with todo:=todo}:Frame)=du kd {fr with todo:=todo} rest:=by cases rest<;> rfl
theorem Jk{kd:CallKind}:({du kd fr rest with mode:= .returning}:Frame)=du kd {fr with mode:= .returning} rest:=by cases rest<;> rfl
theorem cB.with(h:cB P L fr){todo:List Item}(ht:∀x∈todo,ew P L x):cB P L {fr with todo:=todo}:=⟨h.fn,ht,h.defers,h.round,h.kind⟩
theorem pP{id:Nat}:∀{k k':List Item},exitTo id k=some k'→(∀x∈k,ew P L x)→∀x∈k',ew P L x
 | [],k',h,_=>by simp[exitTo] at h
 | x::k,k',h,hk=>by
  have hk':∀y∈k,ew P L y:=fun y hy=>hk y (by simp[hy])
  cases x with
  | inBlock id'=>
   simp only[exitTo] at h
   split at h
   ·cases h;exact hk'
   ·exact pP h hk'
  | _=>exact pP (by simpa[exitTo] using h) hk'
theorem lU{l:Nat}:∀{c c':Code},findLabel c l=some c'→jF P L c→jF P L c'
 | .seq a b,c',h,hc=>by
  simp only[findLabel] at h
  split at h
  ·rename_i x hx;cases h;exact⟨lU hx hc.1,hc.2⟩
  ·exact lU h hc.2
 | .label l',c',h,hc=>by
  simp only[findLabel] at h
  split at h
  ·cases h;trivial
  ·cases h
 | .skip,_,h,_ | .region ..,_,h,_ | .cond ..,_,h,_ | .block ..,_,h,_ | .loop _,_,h,_ | .rangeFunc ..,_,h,_ | .exit _,_,h,_ | .scope _,_,h,_ | .goto _,_,h,_ | .ret,_,h,_ | .refuse _,_,h,_=>by simp[findLabel] at h
theorem qe{l:Nat}:∀{k k':List Item},gotoIn l k=some k'→(∀x∈k,ew P L x)→∀x∈k',ew P L x
 | [],k',h,_=>by simp[gotoIn] at h
 | x::k,k',h,hk=>by
  have hk':∀y∈k,ew P L y:=fun y hy=>hk y (by simp[hy])
  cases x with
  | inScope body=>
   simp only[gotoIn] at h
   split at h
   ·rename_i c hc
    cases h
    have hb:jF P L body:=hk (.inScope body) (by simp)
    intro y hy
    rcases List.mem_cons.1 hy with rfl | hy
    ·exact lU hc hb
    ·rcases List.mem_cons.1 hy with rfl | hy
     ·exact hb
     ·exact hk' y hy
   ·exact qe h hk'
  | _=>exact qe (by simpa[gotoIn] using h) hk'
def jD(P:Program)(L:FuncId→Bool)(fr:Frame)(rest:List Frame)(w:World):Prop:=
 (∃fr' rest' w',cB P L fr'∧(∀x∈rest',cB P L x)∧((fr'::rest').getLast?.map (·.fn)=(fr::rest).getLast?.map (·.fn))∧jv P fr rest w fr' rest' w')∨zx P fr rest w
theorem jD.to(h:cB P L fr)(hr:∀x∈rest,cB P L x)(hm:fr.mode= .run){todo:List Item}(ht:∀x∈todo,ew P L x)
  (hs:∀(f:Frame) (cs:List Frame) (u:World),f.todo=fr.todo→f.fn=fr.fn→f.tmps=fr.tmps→f.roundOf=none→stepG.exec P true true f cs none u= .go (G {f with todo:=todo} cs) u #[]):jD P L fr rest w:=by
 refine .inl ⟨{fr with todo:=todo},rest,w,h.with ht,hr,?_,.still fun u kd cs=>?_⟩
 ·cases rest<;> simp[List.getLast?_cons]
 ·rw[jM hm,hs _ _ _ fi qG kC (by rw[ld];exact h.round),mkG,Hq]
theorem jD.leave(h:cB P L fr)(hr:∀x∈rest,cB P L x)(hm:fr.mode= .run)
  (hs:∀(f:Frame) (cs:List Frame) (u:World),f.todo=fr.todo→f.fn=fr.fn→f.tmps=fr.tmps→f.roundOf=none→stepG.exec P true true f cs none u= .go (G {f with mode:= .returning} cs) u #[]):jD P L fr rest w:=by
 refine .inl ⟨{fr with mode:= .returning},rest,w,⟨h.fn,h.todo,h.defers,h.round,h.kind⟩,hr,?_,.still fun u kd cs=>?_⟩
 ·cases rest<;> simp[List.getLast?_cons]
 ·rw[jM hm,hs _ _ _ fi qG kC (by rw[ld];exact h.round),mkG,Jk]
theorem jD.Dv(hm:fr.mode= .run)(h:cB P L fr)
  (hs:∀(f:Frame) (cs:List Frame) (u:World),f.todo=fr.todo→f.fn=fr.fn→f.tmps=fr.tmps→f.roundOf=none→∃o w' es,stepG.exec P true true f cs none u= .ended o w' es):jD P L fr rest w:=by
 refine .inr (.still fun u kd cs=>?_)
 rw[jM hm]
 exact hs _ _ _ fi qG kC (by rw[ld];exact h.round)
end Go.Mu
namespace Go.Mu
open Go Go.Conc
variable {P:Program}{L:FuncId→Bool}{fr:Frame}{rest:List Frame}{w:World}
theorem mc{kd:CallKind}{cs:List Frame}{c:Frame}:mO kd cs (c::rest)=du kd c rest::mO kd cs rest:=by cases rest<;> rfl
theorem Bf{kd:CallKind}{v:Value}:({fr with kind:=kd}:Frame).finish v= {fr.finish v with kind:=kd}:=by
 unfold Frame.finish;split<;> simp_all
theorem j9{kd:CallKind}{v:Value}:(du kd fr rest).finish v=du kd (fr.finish v) rest:=by
 cases rest
 ·exact Bf
 ·rfl
theorem CS{kd:CallKind}{v:List PanicEntry}:({fr with kind:=kd}:Frame).raise v= {fr.raise v with kind:=kd}:=by
 unfold Frame.raise;split<;> simp_all
theorem uf{kd:CallKind}{v:List PanicEntry}:(du kd fr rest).raise v=du kd (fr.raise v) rest:=by
 cases rest
 ·exact CS
 ·rfl
theorem cB.finish(h:cB P L fr)(v:Value):cB P L (fr.finish v)∧(fr.finish v).fn=fr.fn:=by
 unfold Frame.finish
 split
 ·rename_i ops i l k ht
  exact⟨⟨h.fn,fun x hx=>by
   rcases List.mem_cons.1 hx with rfl | hx
   ·exact h.todo (.inRegion ops (i::l)) (by rw[ht];simp)
   ·exact h.todo x (by rw[ht];simp[hx]),h.defers,h.round,h.kind⟩,rfl⟩
 ·rename_i l k ht;exact absurd (h.todo (.inRangeFunc l) (by rw[ht];simp)) id
 ·rename_i k ht;exact absurd (h.todo .beginRound (by rw[ht];simp)) id
 ·rename_i a b c d k ht;exact absurd (h.todo (.call a b c d) (by rw[ht];simp)) id
 ·rename_i a b k ht;exact absurd (h.todo _ (by rw[ht];exact List.mem_cons_self)) id
 ·exact⟨h,rfl⟩
theorem cB.raise(h:cB P L fr)(v:List PanicEntry):cB P L (fr.raise v)∧(fr.raise v).fn=fr.fn:=by
 unfold Frame.raise
 split<;> exact⟨⟨h.fn,h.todo,h.defers,h.round,h.kind⟩,rfl⟩
theorem jP{fr':Frame}(h:fr'.fn=fr.fn):((fr'::rest).getLast?.map (·.fn)=(fr::rest).getLast?.map (·.fn)):=by
 cases rest<;> simp[List.getLast?_cons,h]
theorem cB.enter(hL:LOK P L){f:FuncId}(hf:L f=true)(args:Array Value):cB P L (Frame.enter P f args .normal):=by
 obtain⟨fn,c,h1,h2,h3,h4,h5⟩:=hL.fn f hf
 refine⟨hf,fun x hx=>?_,rfl,rfl,rfl⟩
 have:x= .code c:=by simpa[Frame.enter,h1,h3] using hx
 subst this;exact h4
theorem eS{a:Item}{k:List Item}(ha:ew P L a)(hk:∀y∈k,ew P L y):∀y∈a::k,ew P L y:=fun y hy=>by
 rcases List.mem_cons.1 hy with rfl | hy
 ·exact ha
 ·exact hk y hy
theorem zp{es:Array Event}{B:Nat}{fn:FuncId}(h:∀e∈es,eK B e):∀e∈seen P fn es,eK B e:=fun e he=>h e (mem_seen he)
theorem OW(hL:LOK P L)(h:cB P L fr)(hr:∀x∈rest,cB P L x)(hm:fr.mode= .run){ops:Array Oper}{i:Nat}{l:List Nat}{k:List Item}(ht:fr.todo= .inRegion ops (i::l)::k):jD P L fr rest w:=by
 by_cases hw:((ops[i]?).map (Region.wanted · (yielded ops fr.tmps))).getD false=true
 ·obtain⟨o,ho⟩:∃o,ops[i]? = some o:=by
   cases e:ops[i]? with
   | none=>rw[e] at hw;simp at hw
   | some o=>exact⟨o,rfl⟩
  have hoo:oX P L o:=h.todo (.inRegion ops (i::l)) (by rw[ht];simp) o (Array.mem_of_getElem? ho)
  -- the step is that of 'apply'
  have hstep:∀(u:World) (kd:CallKind) (cs:List Frame),stepG P true (mkG kd cs fr rest) u=stepG.apply P true (du kd fr rest) (mO kd cs rest) none (execOp fr.eval o) u:=by
   intro u kd cs
   rw[jM hm]
   have e1:(du kd fr rest).oper? = some o:=by unfold Frame.oper?;rw[fi,ht];exact ho
   unfold stepG.exec
   simp only[fi,ht,kC,hw,if_true]
   unfold stepG.oper
   simp only[e1,ld,h.round,Gk]
  have hq:∀u,QR P (execOp fr.eval o) (gg L) u ((execOp fr.eval o).run P u):=fun u=>(hoo.1 _).run
  have hq0:=hq w
  generalize hr0:(execOp fr.eval o).run P w=r0 at hq0
  have hev:∀τ d,gz w τ d ((Result.at' r0).drawn-w.drawn)→(execOp fr.eval o).run P (re w τ d)=Result.reR r0 τ (d+((Result.at' r0).drawn-w.drawn))∧
    ∀e∈(execOp fr.eval o).events P (re w τ d) #[],eK (Result.at' r0).heap.size e:=fun τ d ha=>by
   have e1:=hq0.re τ d ha
   refine⟨e1,fun e he=>?_⟩
   have:=(hq (re w τ d)).evs #[] e he
   rw[e1] at this
   rcases this with g | g
   ·simp at g
   ·revert g
    cases r0<;> exact id
  have kindE:∀kd:CallKind,(match (du kd fr rest).todo with | .call _ true _ _::_=>CallKind.wrapped | _=> .normal)= .normal:=fun kd=>by rw[fi,ht]
  have esL:∀(kd:CallKind) (B:Nat) (es:Array Event),(∀e∈es,eK B e)→∀e∈seen P (du kd fr rest).fn (if(du kd fr rest).kind== .early then #[] else es),eK B e:=fun kd B es he=>zp (by intro e hh;split at hh<;> first | (simp at hh;done) | exact he e hh)
  cases r0 with
  | ok x w'=>
   have hx:=hq0.ok x w' rfl
   cases x with
   | value v=>
    refine .inl ⟨fr.finish v,rest,w',(h.finish v).1,hr,jP (h.finish v).2,hq0.dr,hq0.tape,hq0.size,fun τ d ha kd cs=>?_⟩
    obtain⟨e1,e2⟩:=hev τ d ha
    refine⟨_,?_,esL kd _ _ e2⟩
    rw[hstep];unfold stepG.apply
    simp only[Sem.runT_eq,e1,Result.reR,if_true,GStep.after,j9]
    simp only[mkG,G,Array.append_empty];rfl
   | skip=>
    refine .inl ⟨fr.finish undef,rest,w',(h.finish undef).1,hr,jP (h.finish undef).2,hq0.dr,hq0.tape,hq0.size,fun τ d ha kd cs=>?_⟩
    obtain⟨e1,e2⟩:=hev τ d ha
    refine⟨_,?_,esL kd _ _ e2⟩
    rw[hstep];unfold stepG.apply
    simp only[Sem.runT_eq,e1,Result.reR,if_true,GStep.after,j9]
    simp only[mkG,G,Array.append_empty];rfl
   | enter f args=>
    refine .inl ⟨Frame.enter P f args .normal,fr::rest,w',.enter hL hx args,fun x hx=>?_,?_,hq0.dr,hq0.tape,hq0.size,fun τ d ha kd cs=>?_⟩
    ·rcases List.mem_cons.1 hx with rfl | hx
     ·exact h
     ·exact hr x hx
    ·simp[List.getLast?_cons]
    obtain⟨e1,e2⟩:=hev τ d ha
    refine⟨_,?_,esL kd _ _ e2⟩
    rw[hstep];unfold stepG.apply
    simp only[Sem.runT_eq,e1,Result.reR,if_true,GStep.after,fi,ht]
    simp only[mkG,G,Array.append_empty,mc];rfl
   | _=>exact hx.elim
  | halt x w'=>
   have hx:=hq0.halt x w' rfl
   have hdie:(∀τ d kd cs,(execOp fr.eval o).run P (re w τ d)= .halt x (re w' τ (d+(w'.drawn-w.drawn)))→∃o' w1 es,stepG.apply P true (du kd fr rest) (mO kd cs rest) none (execOp fr.eval o) (re w τ d)= .ended o' w1 es)→jD P L fr rest w:=fun hd=>
    .inr fun τ d ha kd cs=>by rw[hstep];exact hd τ d kd cs (hev τ d (ha _)).1
   cases x with
   | panic v=>
    refine .inl ⟨fr.raise [{v,recovered:=false}],rest,w',(h.raise _).1,hr,jP (h.raise _).2,hq0.dr,hq0.tape,hq0.size,fun τ d ha kd cs=>?_⟩
    obtain⟨e1,e2⟩:=hev τ d ha
    refine⟨_,?_,esL kd _ _ e2⟩
    rw[hstep];unfold stepG.apply
    simp only[Sem.runT_eq,e1,Result.reR,if_true,GStep.after,uf]
    simp only[mkG,G,Array.append_empty];rfl
   | unsupported u=>
    refine hdie fun τ d kd cs e1=>?_
    unfold stepG.apply
    simp only[Sem.runT_eq,e1,if_true]
    cases u with
    | initOrder g=>
     simp only[early,hL.ahead,hL.step,Bool.not_true,Bool.false_eq_true,if_false,GStep.after]
     exact⟨_,_,_,rfl⟩
    | _=>simp only[GStep.after];exact⟨_,_,_,rfl⟩
   | stuck s=>
    refine hdie fun τ d kd cs e1=>?_
    unfold stepG.apply
    simp only[Sem.runT_eq,e1,if_true,GStep.after]
    exact⟨_,_,_,rfl⟩
   | _=>exact hx.elim
 ·refine .inl ⟨fr.finish undef,rest,w,(h.finish undef).1,hr,jP (h.finish undef).2,.still fun u kd cs=>?_⟩
  rw[jM hm]
  unfold stepG.exec
  simp only[fi,ht,kC,hw,j9]
  rfl
theorem Ex(hL:LOK P L)(h:cB P L fr)(hr:∀x∈rest,cB P L x)(hb:rest=[]→fr.mode= .run):jD P L fr rest w:=by
 cases hm:fr.mode with
 | run=>
  cases ht:fr.todo with
  | nil=>
   refine .leave h hr hm fun f cs u h1 h2 h3 h4=>?_
   unfold stepG.exec
   simp only[h1,ht,h4];rfl
  | cons x k=>
   have hk:∀y∈k,ew P L y:=fun y hy=>h.todo y (by rw[ht];simp[hy])
   have hx:ew P L x:=h.todo x (by rw[ht];simp)
   cases x with
   | inBlock id=>exact .to h hr hm hk fun f cs u h1 h2 h3 h4=>by unfold stepG.exec;simp only[h1,ht];rfl
   | inScope c=>exact .to h hr hm hk fun f cs u h1 h2 h3 h4=>by unfold stepG.exec;simp only[h1,ht];rfl
   | inLoop c=>exact .to h hr hm (todo:= .code c:: .inLoop c::k) (eS hx (eS hx hk)) fun f cs u h1 h2 h3 h4=>by unfold stepG.exec;simp only[h1,ht];rfl
   | inRegion ops l=>
    cases l with
    | nil=>exact .to h hr hm hk fun f cs u h1 h2 h3 h4=>by unfold stepG.exec;simp only[h1,ht];rfl
    | cons i l=>exact OW hL h hr hm ht
   | code c=>
    cases c with
    | skip=>exact .to h hr hm hk fun f cs u h1 h2 h3 h4=>by unfold stepG.exec;simp only[h1,ht];rfl
    | label l=>exact .to h hr hm hk fun f cs u h1 h2 h3 h4=>by unfold stepG.exec;simp only[h1,ht];rfl
    | seq a b=>exact .to h hr hm (todo:= .code a:: .code b::k) (eS hx.1 (eS hx.2 hk)) fun f cs u h1 h2 h3 h4=>by unfold stepG.exec;simp only[h1,ht];rfl
    | block id a=>exact .to h hr hm (todo:= .code a:: .inBlock id::k) (eS hx (eS trivial hk)) fun f cs u h1 h2 h3 h4=>by unfold stepG.exec;simp only[h1,ht];rfl
    | loop a=>exact .to h hr hm (todo:= .code a:: .inLoop a::k) (eS hx (eS hx hk)) fun f cs u h1 h2 h3 h4=>by unfold stepG.exec;simp only[h1,ht];rfl
    | scope a=>exact .to h hr hm (todo:= .code a:: .inScope a::k) (eS hx (eS hx hk)) fun f cs u h1 h2 h3 h4=>by unfold stepG.exec;simp only[h1,ht];rfl
    | ret=>
     refine .leave h hr hm fun f cs u h1 h2 h3 h4=>?_
     unfold stepG.exec
     simp only[h1,ht,h4];rfl
    | refuse why=>exact .Dv hm h fun f cs u h1 h2 h3 h4=>by unfold stepG.exec;simp only[h1,ht];exact⟨_,_,_,rfl⟩
    | rangeFunc a b c d=>exact hx.elim
    | exit id=>
     cases he:exitTo id k with
     | some k'=>exact .to h hr hm (pP he hk) fun f cs u h1 h2 h3 h4=>by unfold stepG.exec;simp only[h1,ht,he];rfl
     | none=>exact .Dv hm h fun f cs u h1 h2 h3 h4=>by unfold stepG.exec;simp only[h1,ht,he,h4];exact⟨_,_,_,rfl⟩
    | goto id=>
     cases he:gotoIn id k with
     | some k'=>exact .to h hr hm (qe he hk) fun f cs u h1 h2 h3 h4=>by unfold stepG.exec;simp only[h1,ht,he];rfl
     | none=>exact .Dv hm h fun f cs u h1 h2 h3 h4=>by unfold stepG.exec;simp only[h1,ht,he,h4];exact⟨_,_,_,rfl⟩
    | cond c a b=>
     by_cases hc:∃t,fr.eval c= .bool t
     ·obtain⟨t,hc⟩:=hc
      refine .to h hr hm (todo:= .code (if t then a else b)::k) (eS (by cases t<;> first | exact hx.2 | exact hx.1) hk) fun f cs u h1 h2 h3 h4=>?_
      have hc':f.eval c= .bool t:=by rw[← hc];cases c<;> simp[Frame.eval,h3]
      unfold stepG.exec;simp only[h1,ht,hc'];rfl
     ·refine .Dv hm h fun f cs u h1 h2 h3 h4=>?_
      have hc':f.eval c=fr.eval c:=by cases c<;> simp[Frame.eval,h3]
      unfold stepG.exec;simp only[h1,ht,hc']
      split
      ·rename_i t hb;exact absurd ⟨t,hb⟩ hc
      ·exact⟨_,_,_,rfl⟩
    | region id ops draw=>
     have hx':∀o∈ops,oX P L o:=hx
     have hk2:∀l:List Nat,∀y∈(.inRegion ops l::k:List Item),ew P L y:=fun l=>eS hx' hk
     cases draw with
     | false=>exact .to h hr hm (hk2 (List.range ops.size)) fun f cs u h1 h2 h3 h4=>by unfold stepG.exec;simp only[h1,ht];rfl
     | true=>
      have hq:(Question.order fr.fn id).forced=false:=rfl
      refine .inl ⟨{fr with todo:= .inRegion ops (Region.schedule (P.follows .mixedOrders) ops ((Question.order fr.fn id).cut (w.tape w.drawn (.order fr.fn id))))::k},rest,{w with drawn:=w.drawn+1},h.with (hk2 _),hr,jP rfl,Nat.le_add_right _ _,rfl,Nat.le_refl _,fun τ d ha kd cs=>⟨#[],?_,fun e he=>by simp at he⟩⟩
      have hk1:({w with drawn:=w.drawn+1}:World).drawn-w.drawn=1:=by show w.drawn+1-w.drawn=1;omega
      rw[hk1] at ha⊢
      have h0:=ha 0 (by omega)
      simp only[Nat.add_zero] at h0
      rw[jM hm]
      unfold stepG.exec
      simp only[fi,ht,qG,choose,Sem.run,hq,Bool.not_true,Bool.false_eq_true,if_false]
      show GStep.go _ _ _=_
      rw[mkG,← h0];cases rest<;> rfl
   | _=>exact hx.elim
 | returning=>
  cases rest with
  | nil=>have:=hb rfl;rw[hm] at this;cases this
  | cons c r=>
   obtain⟨fn,_,h1,_,_,_,h5⟩:=hL.fn _ h.fn
   obtain⟨v,hv⟩:=h5 fr.tmps
   have hc:=hr c (by simp)
   refine .inl ⟨c.finish v,r,w,(hc.finish v).1,fun x hx=>hr x (by simp[hx]),?_,.still fun u kd cs=>?_⟩
   ·rw[jP (hc.finish v).2];simp[List.getLast?_cons]
   ·unfold mkG G stepG
    rw[mc,show du kd fr (c::r)=fr from rfl]
    simp only[hm]
    unfold unwind
    simp only[h.defers,hm,h1,Sem.runT_eq,(hv u).1,(hv u).2,doReturn,h.kind,j9]
    simp[GStep.after,seen]
 | panicking chain=>
  cases rest with
  | nil=>have:=hb rfl;rw[hm] at this;cases this
  | cons c r=>
   obtain⟨fn,_,h1,_,_,_,h5⟩:=hL.fn _ h.fn
   have hc:=hr c (by simp)
   refine .inl ⟨c.raise chain,r,w,(hc.raise chain).1,fun x hx=>hr x (by simp[hx]),?_,.still fun u kd cs=>?_⟩
   ·rw[jP (hc.raise chain).2];simp[List.getLast?_cons]
   ·have hcat:fr.catches P=false:=by unfold Frame.catches;rw[h1]
    unfold mkG G stepG
    rw[mc,show du kd fr (c::r)=fr from rfl]
    simp only[hm]
    unfold unwind
    simp only[h.defers,hm,hcat,uf]
    rfl
end Go.Mu
namespace Go.Mu
open Go Go.Conc
inductive Tree(P:Program)(R:Value→World→Prop)(f:FuncId):Frame→List Frame→World→Prop
 | stop {fr:Frame} {w:World} (hm:fr.mode= .returning) (hd:fr.defers=[]) (hf:fr.fn=f)
   (h:∃v fn,P.funcs[fr.fn]? = some fn∧(∀u,(results fn fr.tmps).run P u= .ok v u∧∀es,(results fn fr.tmps).events P u es=es)∧∃τ d,R v (re w τ d)):Tree P R f fr [] w
 | step {fr:Frame} {rest:List Frame} {w:World} (fr':Nat→Frame) (rest':Nat→List Frame) (w':Nat→World) (h:∀d,jv P fr rest (w.at d) (fr' d) (rest' d) (w' d)) (ht:∀d,Tree P R f (fr' d) (rest' d) (w' d)):Tree P R f fr rest w
theorem Tree.Uo{P:Program}{R:Value→World→Prop}{f:FuncId}{fr:Frame}{rest:List Frame}{w:World}(h:∀d,∃fr' rest' w',jv P fr rest (w.at d) fr' rest' w'∧Tree P R f fr' rest' w'):Tree P R f fr rest w:=
 .step (fun d=>(h d).choose) (fun d=>(h d).choose_spec.choose) (fun d=>(h d).choose_spec.choose_spec.choose) (fun d=>(h d).choose_spec.choose_spec.choose_spec.1) (fun d=>(h d).choose_spec.choose_spec.choose_spec.2)
/-! ### one tape out of many -/
def bz(m:Nat→Nat):Nat→Nat
 | 0=>0
 | k+1=>bz m k+m k
theorem mG(m:Nat→Nat){a b:Nat}(h:a≤b):bz m a≤bz m b:=by
 induction h with
 | refl=>exact Nat.le_refl _
 | step _ ih=>exact Nat.le_trans ih (Nat.le_add_right _ _)
theorem yc{α:Type}[Inhabited α](src:Nat→Nat→α)(m:Nat→Nat):∃τ:Nat→α,∀k j,j<m k→τ (bz m k+j)=src k j:=by
 classical
 refine⟨fun i=>if h:∃k,bz m k≤i∧i<bz m (k+1) then src h.choose (i-bz m h.choose) else default,fun k j hj=>?_⟩
 have hk:bz m k≤bz m k+j∧bz m k+j<bz m (k+1):=⟨Nat.le_add_right _ _,by show _<bz m k+m k;omega⟩
 have hex:∃k',bz m k'≤bz m k+j∧bz m k+j<bz m (k'+1):=⟨k,hk⟩
 simp only[dif_pos hex]
 have hc:=hex.choose_spec
 have e:hex.choose=k:=by
  rcases Nat.lt_trichotomy hex.choose k with h | h | h
  ·have:=mG m (show hex.choose+1≤k from h);omega
  ·exact h
  ·have:=mG m (show k+1≤hex.choose from h);omega
 rw[e];congr 1;omega
theorem yN{α:Type}[Inhabited α](src:Nat→Nat→α)(m:Nat→Nat)(n:Nat)(last:Nat→α):∃τ:Nat→α,(∀k j,k<n→j<m k→τ (bz m k+j)=src k j)∧∀j,τ (bz m n+j)=last j:=by
 obtain⟨τ,hτ⟩:=yc src m
 refine⟨fun i=>if i<bz m n then τ i else last (i-bz m n),fun k j hk hj=>?_,fun j=>?_⟩
 ·have:=mG m (show k+1≤n from hk)
  have h2:bz m (k+1)=bz m k+m k:=rfl
  simp only[show bz m k+j<bz m n by omega,if_true]
  exact hτ k j hj
 ·simp only[show¬bz m n+j<bz m n by omega,if_false]
  congr 1;omega
theorem JX{p:Nat→Prop}(h:∃n,p n):∃n,p n∧∀k,k<n→¬p k:=by
 obtain⟨n,hn⟩:=h
 induction n using Nat.strongRecOn with
 | _ n ih=>
  by_cases hk:∃k,k<n∧p k
  ·obtain⟨k,h1,h2⟩:=hk;exact ih k h1 h2
  ·exact⟨n,hn,fun k h1 h2=>hk ⟨k,h1,h2⟩⟩
/-! ### the caller of the lone run: it goes no further -/
def eu(P:Program):Frame:={fn:=P.funcs.size,tmps:=#[],todo:=[.code (.refuse "")],defers:=[{target:= .nil,args:=#[]}],mode:= .run,kind:= .normal}
theorem mq{P:Program}{a:Goroutine}{w w':World}{o:Outcome}{es:Array Event}(hs:a.status= .running)(h:stepG P true a w= .ended o w' es):∃o' w2,step P (solo a w)= .ended o' w2:=by
 have e:=stepT_solo (P:=P) (w:=w) hs
 have h2:∃o' w2 ops,runT P (solo a w) 0=(.ended o' w2,ops):=by
  have:=runT_many_ended (P:=P) (gs:=#[a]) (w:=w) (sl:=none) (i:=0) rfl (show stepG P (0==0) a w=_ from h)
  rw[← solo_eq_crowd] at this
  exact⟨_,_,_,this⟩
 obtain⟨o',w2,ops,h2⟩:=h2
 exact⟨o',w2,by rw[step,e,h2]⟩
theorem runN_ended{P:Program}{m:Machine}{o:Outcome}{w:World}(h:step P m= .ended o w):∀{n:Nat} {m':Machine},runN P (n+1) m≠ .next m':=by
 intro n m' e
 simp only[runN,h] at e
 cases e
theorem wc{P:Program}{m m1:Machine}(h:step P m= .next m1)(n:Nat):runN P (n+1) m=runN P n m1:=by
 simp only[runN,h]
variable {P:Program}{L:FuncId→Bool}
theorem vq{kd:CallKind}{fr fr':Frame}{rest:List Frame}{w w':World}{c:Frame}(h:(solo (mkG kd [c] fr rest) w:Machine)=lone fr' [c] w'):rest=[]∧fr'= {fr with kind:=kd}∧w=w':=by
 rw[lone_eq_solo] at h
 have h1:mkG kd [c] fr rest=G fr' [c]:=by
  have:=congrArg Machine.gs h
  simpa[solo] using this
 have h2:w=w':=congrArg Machine.world h
 unfold mkG G at h1
 simp only[Goroutine.mk.injEq] at h1
 obtain⟨e1,e2,_⟩:=h1
 cases rest with
 | nil=>exact⟨rfl,e1.symm,h2⟩
 | cons x r=>
  exfalso
  have:=congrArg List.length e2
  have hl:∀(r:List Frame),(mO kd [c] r).length=r.length+1:=fun r=>by
   induction r with
   | nil=>rfl
   | cons y r ih=>rw[mc];simp[ih]
  rw[hl] at this;simp at this
structure St where
 fr:Frame
 rest:List Frame
 w:World
def St.ok(P:Program)(L:FuncId→Bool)(f:FuncId)(s:St):Prop:=cB P L s.fr∧(∀x∈s.rest,cB P L x)∧(s.fr::s.rest).getLast?.map (·.fn)=some f
def St.end_(P:Program)(s:St):Prop:=(s.rest=[]∧s.fr.mode≠ .run)∨∃d,zx P s.fr s.rest (s.w.at d)
theorem zo(hL:LOK P L){f:FuncId}(hf:L f=true){args:Array Value}{w:World}{R:Value→World→Prop}
  (h:∀τ d,Calls P f args (re w τ d) fun e w'=>∃v,e= .returned v∧R v w'):Tree P R f (Frame.enter P f args .normal) [] w:=by
 classical
 apply Classical.byContradiction
 intro hn
 -- the way that never comes to an end
 have hnext:∀s:St,s.ok P L f→¬Tree P R f s.fr s.rest s.w→¬s.end_ P→∃(d:Nat) (s':St),jv P s.fr s.rest (s.w.at d) s'.fr s'.rest s'.w∧s'.ok P L f∧¬Tree P R f s'.fr s'.rest s'.w:=by
  intro s hok hnt hne
  have hnd:∃d,¬∃fr' rest' w',jv P s.fr s.rest (s.w.at d) fr' rest' w'∧Tree P R f fr' rest' w':=by
   apply Classical.byContradiction
   intro hc
   exact hnt (.Uo fun d=>Classical.byContradiction fun hd=>hc ⟨d,hd⟩)
  obtain⟨d,hd⟩:=hnd
  rcases Ex (w:=s.w.at d) hL hok.1 hok.2.1 (fun e=>Classical.byContradiction fun hm=>hne (.inl ⟨e,hm⟩)) with⟨fr',rest',w',h1,h2,h3,h4⟩ | h1
  ·exact⟨d,⟨fr',rest',w'⟩,h4,⟨h1,h2,h3.trans hok.2.2⟩,fun ht=>hd ⟨fr',rest',w',h4,ht⟩⟩
  ·exact absurd (.inr ⟨d,h1⟩) hne
 let s0:St:=⟨Frame.enter P f args .normal,[],w⟩
 have hs0:s0.ok P L f:=⟨.enter hL hf args,by simp[s0],rfl⟩
 let lW:St→Prop:=fun s=>s.ok P L f∧¬Tree P R f s.fr s.rest s.w
 have hstep:∀s: {s:St // lW s},∃p:Nat×{s:St // lW s},s.1.end_ P∨jv P s.1.fr s.1.rest (s.1.w.at p.1) p.2.1.fr p.2.1.rest p.2.1.w:=by
  intro s
  by_cases he:s.1.end_ P
  ·exact⟨(0,s),.inl he⟩
  ·obtain⟨d,s',h1,h2,h3⟩:=hnext s.1 s.2.1 s.2.2 he
   exact⟨(d,⟨s',h2,h3⟩),.inr h1⟩
 let nx: {s:St // lW s}→Nat×{s:St // lW s}:=fun s=>(hstep s).choose
 have hnx:∀s,s.1.end_ P∨jv P s.1.fr s.1.rest (s.1.w.at (nx s).1) (nx s).2.1.fr (nx s).2.1.rest (nx s).2.1.w:=fun s=>(hstep s).choose_spec
 let seq:Nat→{s:St // lW s}:=fun n=>Nat.rec ⟨s0,hs0,hn⟩ (fun _ s=>(nx s).2) n
 have hseq:∀n,seq (n+1)=(nx (seq n)).2:=fun n=>rfl
 let dd:Nat→Nat:=fun n=>(nx (seq n)).1
 let mm:Nat→Nat:=fun n=>(seq (n+1)).1.w.drawn-dd n
 have htape:∀n,(∀k,k<n→¬(seq k).1.end_ P)→(seq n).1.w.tape=w.tape:=by
  intro n
  induction n with
  | zero=>intro _;rfl
  | succ n ih=>
   intro hk
   have h1:=ih fun k hk'=>hk k (by omega)
   have h2:=(hnx (seq n)).resolve_left (hk n (by omega))
   rw[hseq]
   exact h2.tape.trans h1
 -- the lone run along a tape that answers as the way does
 have along:∀(n:Nat) (τ:Nat→Question→Nat),(∀k,k<n→¬(seq k).1.end_ P)→(∀k j,k<n→j<mm k→τ (bz mm k+j)=w.tape (dd k+j))→
   ∀m:Nat,runN P (n+m) (lone (Frame.enter P f args .normal) [eu P] (re w τ 0))=runN P m (solo (mkG .normal [eu P] (seq n).1.fr (seq n).1.rest) (re (seq n).1.w τ (bz mm n))):=by
  intro n τ
  induction n with
  | zero=>intro _ _ m;rw[Nat.zero_add];rfl
  | succ n ih=>
   intro hk hτ m
   rw[show n+1+m=n+(m+1) by omega,ih (fun k hk'=>hk k (by omega)) (fun k j hk' hj=>hτ k j (by omega) hj) (m+1)]
   have hM:=(hnx (seq n)).resolve_left (hk n (by omega))
   have hdr:=hM.dr
   have e1:((seq n).1.w.at (nx (seq n)).1).drawn=dd n:=rfl
   have hag:gz ((seq n).1.w.at (nx (seq n)).1) τ (bz mm n) ((nx (seq n)).2.1.w.drawn- ((seq n).1.w.at (nx (seq n)).1).drawn):=fun j hj=>by
    rw[e1] at hj⊢
    have ht:((seq n).1.w.at (nx (seq n)).1).tape=w.tape:=htape n fun k hk'=>hk k (by omega)
    rw[ht]
    exact hτ n j (by omega) hj
   obtain⟨es,h1,_⟩:=hM.go τ (bz mm n) hag .normal [eu P]
   have h2:=step_solo_go (P:=P) rfl h1
   have e2:re ((seq n).1.w.at (nx (seq n)).1) τ (bz mm n)=re (seq n).1.w τ (bz mm n):=rfl
   rw[e2] at h2
   rw[wc h2]
   rfl
 have fin:∀(τ:Nat→Question→Nat),∃N fr v w',runN P N (lone (Frame.enter P f args .normal) [eu P] (re w τ 0))= .next (lone fr [eu P] w')∧fr.leaving P w' (.returned v)∧R v w':=by
  intro τ
  obtain⟨e,w',fr,⟨v,rfl,hR⟩,⟨N,hN⟩,_,hl⟩:=h τ 0 [eu P]
  exact⟨N,fr,v,w',hN,hl,hR⟩
 by_cases hany:∃n,(seq n).1.end_ P
 ·obtain⟨n,hend,hleast⟩:=JX hany
  obtain⟨last,hlast⟩:∃last:Nat→Question→Nat,((seq n).1.rest=[]∧(seq n).1.fr.mode≠ .run)∨∃d,zx P (seq n).1.fr (seq n).1.rest ((seq n).1.w.at d)∧∀j,last j=w.tape (d+j):=by
   rcases hend with h1 | ⟨d,h1⟩
   ·exact⟨fun _ _=>0,.inl h1⟩
   ·exact⟨fun j=>w.tape (d+j),.inr ⟨d,h1,fun _=>rfl⟩⟩
  obtain⟨τ,hτ,hτl⟩:=yN (fun k j=>w.tape (dd k+j)) mm n last
  obtain⟨N,fr,v,w',hN,hl,hR⟩:=fin τ
  rcases Nat.lt_trichotomy N n with hlt | rfl | hgt
  ·have h1:=along N τ (fun k hk=>hleast k (by omega)) (fun k j hk hj=>hτ k j (by omega) hj) 0
   rw[Nat.add_zero,hN] at h1
   simp only[runN,Stepped.next.injEq] at h1
   obtain⟨k1,k2,k3⟩:=vq h1.symm
   exact hleast N hlt (.inl ⟨k1,by rw[show(seq N).1.fr.mode=fr.mode by rw[k2],hl.1];simp⟩)
  ·have h1:=along N τ hleast hτ 0
   rw[Nat.add_zero,hN] at h1
   simp only[runN,Stepped.next.injEq] at h1
   obtain⟨k1,k2,k3⟩:=vq h1.symm
   have hok:=(seq N).2.1
   have hfn:(seq N).1.fr.fn=f:=by
    have:=hok.2.2
    rw[k1] at this
    simpa using this
   obtain⟨hl1,_,_,fn,hl4,hl5⟩:=hl
   have e1:fr.fn=(seq N).1.fr.fn:=by rw[k2]
   have e2:fr.tmps=(seq N).1.fr.tmps:=by rw[k2]
   rw[e1] at hl4
   rw[e2] at hl5
   obtain⟨fn',c,g1,_,_,_,g5⟩:=hL.fn _ hok.1.fn
   rw[hl4] at g1
   cases g1
   obtain⟨v',hv'⟩:=g5 (seq N).1.fr.tmps
   have:v=v':=by
    have:=(hv' w').1
    rw[hl5] at this
    simpa using this
   subst this
   refine(seq N).2.2 ?_
   rw[k1]
   exact .stop (by rw[show(seq N).1.fr.mode=fr.mode by rw[k2]];exact hl1) hok.1.defers hfn ⟨v,fn,hl4,hv',τ,bz mm N,by rw[k3];exact hR⟩
  ·obtain⟨m,rfl⟩:∃m,N=n+(m+1):=⟨N-n-1,by omega⟩
   rw[along n τ hleast hτ (m+1)] at hN
   rcases hlast with⟨k1,k2⟩ | ⟨d,k1,k2⟩
   ·rw[k1] at hN
    have hok:cB P L (seq n).1.fr:=(seq n).2.1.1
    generalize (seq n).1.fr=fr0 at hN k2 hok
    generalize re (seq n).1.w τ (bz mm n)=u at hN
    have two:∀(a:Frame),stepG P true (mkG .normal [eu P] fr0 []) u= .go (G a []) u #[]→(∃o w2 es,stepG P true (G a []) u= .ended o w2 es)→False:=by
     intro a h1 ⟨o,w2,es,h2⟩
     rw[wc (step_solo_go rfl h1)] at hN
     cases m with
     | zero=>
      simp only[runN,Stepped.next.injEq] at hN
      rw[lone_eq_solo] at hN
      have:=congrArg Machine.gs hN
      simp[solo,G] at this
     | succ m=>
      obtain⟨o',w3,h3⟩:=mq (P:=P) rfl h2
      exact runN_ended h3 hN
    obtain⟨fn,_,g1,_,_,_,g5⟩:=hL.fn _ hok.fn
    cases hm:fr0.mode with
    | run=>exact k2 hm
    | returning=>
     obtain⟨v',hv'⟩:=g5 fr0.tmps
     refine two (eu P) ?_ ?_
     ·unfold mkG G stepG
      simp only[du,hm,mO]
      unfold unwind
      simp only[hok.defers,hm,g1,Sem.runT_eq,(hv' u).1,(hv' u).2,doReturn]
      simp[GStep.after,seen,eu,Frame.finish]
     ·unfold G stepG eu
      simp only
      unfold stepG.exec
      exact⟨_,_,_,rfl⟩
    | panicking chain=>
     refine two ((eu P).raise chain) ?_ ?_
     ·have hcat:∀x:Frame,x.fn=fr0.fn→x.catches P=false:=fun x hx=>by unfold Frame.catches;rw[hx,g1]
      unfold mkG G stepG
      simp only[du,hm,mO]
      unfold unwind
      simp only[hok.defers,hm]
      rw[if_neg (fun hc=>by exact absurd (hc.symm.trans (hcat _ (by rfl))) (by decide))]
     ·unfold G stepG eu Frame.raise
      simp only
      unfold unwind
      simp only[callDeferred]
      exact⟨_,_,_,rfl⟩
   ·have hag:∀k,gz ((seq n).1.w.at d) τ (bz mm n) k:=fun k j _=>by
     have ht:((seq n).1.w.at d).tape=w.tape:=htape n hleast
     rw[ht,hτl,k2];rfl
    obtain⟨o,w1,es,h1⟩:=k1 τ (bz mm n) hag .normal [eu P]
    obtain⟨o',w3,h3⟩:=mq (P:=P) rfl h1
    exact runN_ended h3 hN
 ·have hne:∀n,¬(seq n).1.end_ P:=fun n hn'=>hany ⟨n,hn'⟩
  obtain⟨τ,hτ⟩:=yc (fun k j=>w.tape (dd k+j)) mm
  obtain⟨N,fr,v,w',hN,hl,hR⟩:=fin τ
  have h1:=along N τ (fun k _=>hne k) (fun k j _ hj=>hτ k j hj) 0
  rw[Nat.add_zero,hN] at h1
  simp only[runN,Stepped.next.injEq] at h1
  obtain⟨k1,k2,k3⟩:=vq h1.symm
  exact hne N (.inl ⟨k1,by rw[show(seq N).1.fr.mode=fr.mode by rw[k2],hl.1];simp⟩)
end Go.Mu
namespace Go.Mu
open Go Go.Conc
variable {P:Program}
theorem Tree.fin{R:Value→World→Prop}{f:FuncId}{au:Goroutine→World→(Nat→Prop)→Prop}{kd:CallKind}{cs:List Frame}{fr:Frame}{rest:List Frame}{w:World}(h:Tree P R f fr rest w)
  (hp:∀(fr:Frame) (w':World),w'.tape=w.tape→fr.mode= .returning→fr.defers=[]→fr.fn=f→(∃v fn,P.funcs[fr.fn]? = some fn∧(∀u,(results fn fr.tmps).run P u= .ok v u∧∀es,(results fn fr.tmps).events P u es=es)∧∃τ d,R v (re w' τ d))→∃V',au (G {fr with kind:=kd} cs) w' V') :
  ∀gs sl t qs,gs[0]? = some (mkG kd cs fr rest)→cR P gs w t qs→jC P au gs w sl t:=by
 induction h with
 | stop h1 h2 h3 h4=>
  intro gs sl t qs h0 hI
  obtain⟨V',hV⟩:=hp _ _ rfl h1 h2 h3 h4
  exact⟨0,gs,_,_,sl,t,V',_,qs,rfl,h0,hI,.refl _ _,hV⟩
 | @step fr rest w fr' rest' w' hm ht ih=>
  intro gs sl t qs h0 hI
  have hacc:=cR.acc qs
  have hg:(mkG kd cs fr rest).status= .running:=rfl
  suffices ∀d,∀gs sl t,gs[0]? = some (mkG kd cs fr rest)→cR P gs (w.at d) t qs→jC P au gs (w.at d) sl t by
   have:=this w.drawn gs sl t h0 (hI.draw _)
   exact this
  clear h0 hI gs sl t
  induction hacc with
  | intro qs _ ihq=>
   intro d gs sl t h0 hI
   obtain⟨i,g1,d',sl',hi,hrun,hst⟩:=crowd_pick (P:=P) (w:=w.at d) (sl:=sl) (hI.awake h0 (awake_of (.inl hg))) ⟨0,_,h0,hg⟩
   have e:(w.at d).at d'=w.at d':=rfl
   rw[e] at hst
   have hI':cR P gs (w.at d') t qs:=hI.draw d'
   cases i with
   | zero=>
    obtain⟨es,k1,k2⟩:=(hm d').plain kd cs
    have hrunT:=runT_crowd_go (P:=P) (sl:=sl') (i:=0) h0 (show stepG P (0==0) _ (w.at d')=_ from k1)
    rw[hI'.calm (w' d') h0 hg] at hrunT
    refine jC.step (hst.trans hrunT) (ih d' (fun fr w1 ht=>hp fr w1 (ht.trans (hm d').tape)) _ _ _ qs ?_ ?_)
    ·rw[Array.getElem?_setIfInBounds_self_of_lt (Array.getElem?_eq_some_iff.1 h0).1]
    ·refine hI'.any (hm d').size (fun op hop=>?_) (fun op hop m hm'=>?_) fun op hop=>?_
     ·obtain⟨e,he,rfl⟩:=Conc.mem_ofEvents hop;rfl
     ·obtain⟨e,he,rfl⟩:=Conc.mem_ofEvents hop;exact(k2 e he).1 m hm'
     ·obtain⟨e,he,rfl⟩:=Conc.mem_ofEvents hop;exact(k2 e he).2
   | succ i=>
    obtain⟨gs',qs',k1,k2,k3,k4⟩:=hI'.slip (sl:=sl') h0 hg hi hrun
    exact jC.step (hst.trans k1) (ihq qs' k4 d' gs' sl' _ k2 (by rw[Array.append_empty];exact k3))
theorem ni{L:FuncId→Bool}(hL:LOK P L){f:FuncId}(hf:L f=true)(hC:aW P f){args:List AV}{σ:List aa}{Q:AV→List aa→Prop}
  (h:∀(K:Kr) (w:World) (cargs:Array Value),R K σ w→VRs K σ.length args cargs.toList→Calls P f cargs w fun e w'=>∃v,e= .returned v∧
   ∃u σ' K',VR K' σ'.length u v∧Q u σ'∧R K' σ' w'∧Step K σ w K' σ' w'):ao (fun M=>M=Bes P) f args σ Q:=by
 refine⟨hC,fun M hM=>?_⟩
 subst hM
 intro K w V cargs kd cs hR hO hA w₀ hrel gs sl t qs h0 hI
 have hR0:=hR.rely hO hrel
 have hO0:aU (Bes P).Sh V K σ w₀:=hO.rely hrel
 have hRre:∀τ d,R K σ (re w₀ τ d):=fun τ d=>hR0.same (fun _ _ _ _=>rfl) (fun _ _=>rfl) fun g cs hg=>(hR0.lay g cs hg).1
 have hT:=zo hL hf (args:=cargs) (w:=w₀) (R:=fun v w'=>∃τ d,(∃u σ' K',VR K' σ'.length u v∧Q u σ'∧R K' σ' w'∧Step K σ (re w₀ τ d) K' σ' w')) fun τ d=>
  (h K (re w₀ τ d) cargs (hRre τ d) hA).mono fun e w' ⟨v,h1,h2⟩=>⟨v,h1,τ,d,h2⟩
 refine hT.fin (kd:=kd) (cs:=cs) ?_ gs sl t qs h0 hI
 intro fr w' htp hm hd hfn ⟨v,fn,k1,k2,τ',d',τ,d,u,σ',K',k3,k4,k5,k6⟩
 -- the step, seen in the world that is there
 have k5':R K' σ' w':=k5.same (fun _ _ _ _=>rfl) (fun _ _=>rfl) fun g cs hg=>(k5.lay g cs hg).1
 have hS:Step K σ w₀ K' σ' {w' with drawn:=max w'.drawn w₀.drawn}:=⟨k6.ext,k6.len,k6.size,k6.keep,k6.os,htp,k6.output,k6.froz,Nat.le_max_right _ _⟩
 have k5'':R K' σ' {w' with drawn:=max w'.drawn w₀.drawn}:=k5.same (fun _ _ _ _=>rfl) (fun _ _=>rfl) fun g cs hg=>(k5.lay g cs hg).1
 have hO':=hO0.step k5'' hS
 have hSV:aI V K σ w₀ (ct V w₀.heap.size w'.heap.size) K' σ' w':=by
  have:=aI.mY (V:=V) hS
  exact⟨this.ext,this.len,this.size,this.keep,this.sub,this.new,this.os,this.tape,this.output⟩
 refine⟨ct V w₀.heap.size w'.heap.size,{fr with kind:=kd},u,σ',K',rfl,hfn,rfl,⟨hm,hd,fn,k1,fun w₁ hr=>⟨v,(k2 w₁).1,k3,fun e he=>?_⟩⟩,k4,k5',⟨hO'.obj,hO'.stab,hO'.lay,hO'.sh⟩,(aI.bN hrel).trans hSV⟩
 rw[(k2 w₁).2] at he;simp at he
end Go.Mu
