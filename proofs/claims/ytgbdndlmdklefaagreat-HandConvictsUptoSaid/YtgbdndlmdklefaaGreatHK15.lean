/- Goroutine 0's way of running in a crowd at a channel with room. -/
import Derived.Test.YtgbdndlmdklefaaGreatHK14
import Derived.Test.YtgbdndlmdklefaaGreatHK07
import Derived.Conc.SmallLaws
import Derived.Conc.EventLaws
import Derived.Conc.Own2
import Derived.Test.YtgbdndlmdklefaaGreatHK10
set_option linter.unusedSimpArgs false
set_option linter.unusedVariables false
namespace Go.Mu
open Go Go.Conc
def Fin(C:Crw)(au:Nat→List Nat→Goroutine→World→(Nat→Prop)→Prop)(gs:Array Goroutine)(w:World)(sl:Option (Nat×Nat))(t:Trace):Prop:=
 ∃N gs' g' w₁ sl' t' s' D' V' w' ws' ms',runNT C.P N (crowd gs w sl) t=(.next (crowd gs' w₁ sl'),t')∧gs'[0]? = some g'∧bq C gs' w₁ t' V' ws' ms' s' D'∧Rel V' w' w₁∧au s' D' g' w' V'
def JC(C:Crw)(s:Nat)(D:List Nat)(g:Goroutine)(w:World)(V:Nat→Prop)(au:Nat→List Nat→Goroutine→World→(Nat→Prop)→Prop):Prop:=
 ∀w₀,Rel V w w₀→∀gs sl t ws ms,gs[0]? = some g→bq C gs w₀ t V ws ms s D→Fin C au gs w₀ sl t
section
variable {C:Crw}{gs:Array Goroutine}{w w':World}{t u:Trace}{V V₁ Vc:Nat→Prop}{ws:List WS}{ms:List fN}{s:Nat}{D:List Nat}{g:Goroutine}{sl:Option (Nat×Nat)}{au Post':Nat→List Nat→Goroutine→World→(Nat→Prop)→Prop}
theorem JC.ret(h:au s D g w V):JC C s D g w V au:=fun w₀ hr gs sl t ws ms h0 hI=>⟨0,gs,g,w₀,sl,t,s,D,V,w,ws,ms,rfl,h0,hI,hr,h⟩
theorem Fin.bind(h:Fin C au gs w sl t)(hp:∀s' D' g' w' V',au s' D' g' w' V'→JC C s' D' g' w' V' Post'):Fin C Post' gs w sl t:=by
 obtain⟨N,gs',g',w₁,sl',t',s',D',V',w',ws',ms',h1,h2,h3,h4,h5⟩:=h
 obtain⟨N2,gs2,g2,w2,sl2,t2,s2,D2,V2,w2',ws2,ms2,k1,k2⟩:=hp _ _ _ _ _ h5 w₁ h4 gs' sl' t' ws' ms' h2 h3
 exact⟨N+N2,gs2,g2,w2,sl2,t2,s2,D2,V2,w2',ws2,ms2,by rw[runNT_add,h1];exact k1,k2⟩
theorem JC.bind(h:JC C s D g w V au)(hp:∀s' D' g' w' V',au s' D' g' w' V'→JC C s' D' g' w' V' Post'):JC C s D g w V Post':=
 fun w₀ hr gs sl t ws ms h0 hI=>(h w₀ hr gs sl t ws ms h0 hI).bind hp
theorem Fin.step{gs':Array Goroutine}{sl':Option (Nat×Nat)}{ops:Trace}(h:stepT C.P (crowd gs w sl)=(.next (crowd gs' w' sl'),ops))(hf:Fin C au gs' w' sl' (t++ops)):Fin C au gs w sl t:=by
 obtain⟨N,gs2,g2,w2,sl2,t2,s2,D2,V2,w2',ws2,ms2,k1,k2⟩:=hf
 exact⟨N+1,gs2,g2,w2,sl2,t2,s2,D2,V2,w2',ws2,ms2,by rw[runNT_succ_next h];exact k1,k2⟩
theorem JC.shrink(h:JC C s D g w V₁ au)(hV:∀b,V₁ b→V b):JC C s D g w V au:=fun w₀ hr gs sl t ws ms h0 hI=>
 h w₀ ⟨hr.size,fun b hb hv=>hr.keep b hb (hV b hv),hr.os,hr.tape,hr.output⟩ gs sl t ws ms h0 (hI.shrink hV)
theorem JC.next(hg:g.status= .running)(hk:∀w₁,Rel V w w₁→∀gs sl t ws ms,gs[0]? = some g→bq C gs w₁ t V ws ms s D→∃gs' w' ops,runT C.P (crowd gs w₁ sl) 0=(.next (crowd gs' w' sl),ops)∧Fin C au gs' w' sl (t++ops)) :
  JC C s D g w V au:=by
 intro w₀ hr gs sl t ws ms h0 hI
 have hacc:=hI.acc
 induction hacc generalizing w₀ gs sl t ms with
 | intro ws _ ih=>
  obtain⟨i,g1,d,sl',hi,hrun,hst⟩:=crowd_pick (P:=C.P) (w:=w₀) (sl:=sl) (hI.awake h0 (awake_of (.inl hg))) ⟨0,g,h0,hg⟩
  have hI':=hI.draw d
  have hr':=hr.trans (nu V w₀ d)
  cases i with
  | zero=>
   obtain⟨gs',w',ops,h1,h2⟩:=hk _ hr' gs sl' t ws ms h0 hI'
   exact Fin.step (hst.trans h1) h2
  | succ i=>
   obtain⟨gs',w',ops,ws',ms',h1,h2,h3,h4,h5⟩:=hI'.other (sl:=sl') h0 hg hi hrun
   exact Fin.step (hst.trans h1) (ih ws' h4 w' (hr'.trans h5) gs' sl' _ ms' h2 h3)
theorem JC.own(hg:g.status= .running)(h:∀w₁,Rel V w w₁→∃g' w' es,stepG C.P true g w₁= .go g' w' es∧Gua C.Sh V w₁ w' es∧JC C s D g' w' (ct V w₁.heap.size w'.heap.size) au):JC C s D g w V au:=by
 refine JC.next hg fun w₁ hr gs sl t ws ms h0 hI=>?_
 obtain⟨g',w',es,h1,h2,h3⟩:=h w₁ hr
 have hrun:=runT_crowd_go (P:=C.P) (sl:=sl) (i:=0) h0 (show stepG C.P (0==0) g w₁=_ from h1)
 rw[hI.calm w' h0 (jA (.inl hg))] at hrun
 refine⟨_,_,_,hrun,h3 w' (.refl _ _) _ sl _ ws ms ?_ (hI.main h2)⟩
 rw[Array.getElem?_setIfInBounds_self_of_lt (Array.getElem?_eq_some_iff.1 h0).1]
theorem JC.go(hg:g.status= .running)(h1:∀b,V₁ b→V b)(h2:∀b,Vc b→V b)(h12:∀b,V₁ b→Vc b→C.Sh b)(hs:s+1≤C.cap)
  (h:∀w₁,Rel V w w₁→∃g' child es,stepG C.P true g w₁= .spawn g' child w₁ es∧Gua C.Sh V w₁ w₁ es∧WT C.P C.Sh C.c (C.Msg s) child w₁ Vc∧JC C (s+1) D g' w₁ V₁ au):JC C s D g w V au:=by
 refine JC.next hg fun w₁ hr gs sl t ws ms h0 hI=>?_
 obtain⟨g',child,es,k1,k2,k3,k4⟩:=h w₁ hr
 have hrun:=runT_crowd_spawn (P:=C.P) (sl:=sl) (i:=0) h0 (show stepG C.P (0==0) g w₁=_ from k1)
 have hM:=hI.main (g':=g') (fn:=g.frame.fn) (pos:=g.frame.place) k2
 rw[bk] at hM
 have hb:=hM.born (child:=child) k3 hs h1 h2 h12 (x:={g:=0,fn:=g.frame.fn,pos:=g.frame.place,act:= .go gs.size}) (y:={g:=gs.size,fn:=child.frame.fn,pos:=g.frame.place,act:= .start}) ⟨rfl,by rw[hI.size]⟩ ⟨hI.size,rfl⟩
 refine⟨_,_,_,hrun,?_⟩
 have e:t++(((MemOp.ofEvents 0 g.frame.fn g.frame.place es).push {g:=0,fn:=g.frame.fn,pos:=g.frame.place,act:= .go gs.size}).push {g:=gs.size,fn:=child.frame.fn,pos:=g.frame.place,act:= .start}) =
   t++MemOp.ofEvents 0 g.frame.fn g.frame.place es++#[{g:=0,fn:=g.frame.fn,pos:=g.frame.place,act:= .go gs.size},{g:=gs.size,fn:=child.frame.fn,pos:=g.frame.place,act:= .start}]:=by
  apply Array.ext';simp
 rw[e]
 refine k4 w₁ (.refl _ _) _ sl _ _ ms ?_ hb
 have:=(Array.getElem?_eq_some_iff.1 h0).1
 rw[Array.getElem?_push_lt (by simpa using this)]
 simp[this]
theorem bq.parked{g₂:Goroutine}{z:Value}(h:bq C gs w t V ws [] s D)(h0:gs[0]? = some (Conc.parked g₂ #[rcase C.c z] (.recv false)))(hlt:D.length<s)
  (hk:∀w',Rel V w w'→∀gs' sl' t' ws' (m:fN),gs'[0]? = some (Conc.served g₂ m.v)→C.Msg m.k m.v m.w m.V→Rel m.V m.w w'→(∀b,V b→m.V b→C.Sh b)→bq C gs' w' t' (fun b=>V b∨m.V b) ws' [] s (m.k::D)→Fin C au gs' w' sl' t'):Fin C au gs w sl t:=by
 have hacc:=h.acc
 induction hacc generalizing w gs sl t with
 | intro ws _ ih=>
  have hpk:(Conc.parked g₂ #[rcase C.c z] (.recv false)).status= .blocked:=rfl
  have hsome:∃(i:Nat) (g:Goroutine),gs[i]? = some g∧g.status= .running:=by
   have hl:=h.perm.length_eq
   simp at hl
   have:fH ws≠[]:=fun e=>by rw[e] at hl;simp at hl;omega
   obtain⟨k,hk⟩:=List.exists_mem_of_ne_nil _ this
   obtain⟨x,hx,hxk⟩:=List.mem_filterMap.1 hk
   obtain⟨i,hi⟩:=List.getElem?_of_mem hx
   obtain⟨g1,hg1,hat⟩:=h.at_ i x hi
   cases x with
   | act k' g' w' V'=>exact⟨i+1,g1,hg1,hat.2.1.running⟩
   | quit n=>simp[WS.key] at hxk
  obtain⟨i,g1,d,sl',hi,hrun,hst⟩:=crowd_pick (P:=C.P) (w:=w) (sl:=sl) (h.awake h0 (awake_of (.inr (.inl hpk)))) hsome
  have hI:=h.draw d
  have hrd:=nu V w d
  have hK:∀w',Rel V (w.at d) w'→∀gs' sl' t' ws' (m:fN),gs'[0]? = some (Conc.served g₂ m.v)→C.Msg m.k m.v m.w m.V→Rel m.V m.w w'→(∀b,V b→m.V b→C.Sh b)→bq C gs' w' t' (fun b=>V b∨m.V b) ws' [] s (m.k::D)→Fin C au gs' w' sl' t':=fun w' hr=>hk w' (hrd.trans hr)
  generalize w.at d=w₁ at hI hst hK
  cases i with
  | zero=>rw[h0] at hi;cases hi;rw[hpk] at hrun;cases hrun
  | succ i=>
   obtain⟨x,hx,hat⟩:=hI.get hi
   have hi0:((i+1:Nat)==0)=false:=by simp
   have set0:∀y:Goroutine,(gs.setIfInBounds (i+1) y)[0]? = some (Conc.parked g₂ #[rcase C.c z] (.recv false)):=fun y=>by rw[Array.getElem?_setIfInBounds_ne (by omega)];exact h0
   cases x with
   | act k g2 w0 V0=>
    obtain⟨rfl,hT,hrel⟩:=hat
    have hdis:∀b,V0 b→V b→C.Sh b:=fun b h1 h2=>hI.disj _ _ _ _ (.act hx) .main (by simp) b h1 h2
    unfold WT at hT
    cases hT with
    | step h1 h2 h3=>
     obtain⟨g',w',es,hst',hG⟩:=h2 w₁ hrel
     have hW:=hI.work (g':=g') (fn:=g2.frame.fn) (pos:=g2.frame.place) hx hG (h3 w₁ g' w' es hrel hst')
     have hrunT:=runT_crowd_go (P:=C.P) (sl:=sl') (i:=i+1) hi (by rw[hi0];exact hst')
     rw[hI.calm w' h0 (woken_recv_open _ _ hW.chan)] at hrunT
     have hr:=lf hG hdis
     exact Fin.step (hst.trans hrunT) (ih _ (.qg (y:= .act k g' w' (ct V0 w₁.heap.size w'.heap.size)) hx ⟨w₁,es,hrel,hst',rfl,rfl⟩) hW (set0 _) fun w2 hr2=>hK w2 (hr.trans hr2))
    | ret hs=>
     obtain⟨g₃,v,z',es,hst',hG,hM,n,hq⟩:=hs.2 w₁ hrel
     have hp:partners (gs.setIfInBounds (i+1) ph) C.c false=[(0,0)]:=by
      have h0':(gs.setIfInBounds (i+1) ph)[0]? = some (Conc.parked g₂ #[rcase C.c z] (.recv false)):=set0 _
      rw[partners_one h0' fun j y hj hy=>?_,offersAt_parked_recv]
      ·simp
      ·rcases getElem?_stand gs (i+1) j y hy with⟨_,rfl⟩ | ⟨_,hy⟩
       ·exact offersAt_ph _ _
       ·exact hI.offers hj hy _ _
     have hchan:w₁.heap[C.c]? = some (.chan C.cap #[] false (D.length+0) D.length C.tm):=by simpa using hI.chan
     have hrunT:=crowd_send_meets (P:=C.P) (sl:=sl') (i:=i+1) (j:=0) hi (by rw[hi0];exact hst') hchan (by omega) h0 hp
     rw[finishComm_send,finishComm_recv] at hrunT
     have hT':WT C.P C.Sh C.c (C.Msg k) g2 w₁ (ct V0 w₁.heap.size w₁.heap.size):=by
      rw[bk];exact WT.rely (CoJ.ret hs) hrel
     have hW:=hI.work (g':=g2) (fn:=g2.frame.fn) (pos:=g2.frame.place) hx hG hT'
     rw[bk] at hW
     have hgs:gs.setIfInBounds (i+1) g2=gs:=by
      apply Array.ext_getElem?
      intro j
      by_cases e:i+1=j
      ·subst e;rw[Array.getElem?_setIfInBounds_self_of_lt (Array.getElem?_eq_some_iff.1 hi).1,hi]
      ·rw[Array.getElem?_setIfInBounds_ne e]
     rw[hgs] at hW
     have hxs:=List.getElem?_set_self (a:=WS.act k g2 w₁ V0) (List.getElem?_eq_some_iff.1 hx).1
     have hc:=(Array.getElem?_eq_some_iff.1 hI.chan).1
     generalize hu:(#[{g:=i+1,fn:=g₃.frame.fn,pos:=g₃.frame.place,act:= .send C.c (D.length+0)},{g:=0,fn:=g₂.frame.fn,pos:=g₂.frame.place,act:= .recv C.c D.length C.cap},
       {g:=i+1,fn:=g₃.frame.fn,pos:=g₃.frame.place,act:= .sendDone C.c (D.length+0)},{g:=0,fn:=g₂.frame.fn,pos:=g₂.frame.place,act:= .recvDone C.c D.length}]:Array MemOp)=uu at hrunT
     have hmem:∀op∈uu,op.act.touch? = none∧(∀m,op.act≠ .mark m)∧op.act.low w₁.heap.size:=by
      intro op hop
      rw[← hu] at hop
      simp at hop
      rcases hop with rfl | rfl | rfl | rfl<;> exact⟨rfl,by simp,hc⟩
     have hat0:∀(t0:Trace),(t0++uu)[t0.size]? = some {g:=i+1,fn:=g₃.frame.fn,pos:=g₃.frame.place,act:= .send C.c (D.length+0)}:=fun t0=>by rw[Array.getElem?_append_right (Nat.le_refl _),← hu];simp
     have hat3:∀(t0:Trace),(t0++uu)[t0.size+3]? = some {g:=0,fn:=g₂.frame.fn,pos:=g₂.frame.place,act:= .recvDone C.c D.length}:=fun t0=>by rw[Array.getElem?_append_right (by omega),← hu];simp
     have hS:=hW.rZ (u:=uu) (n:=n) (g':=Conc.served g₃ undef) (v:=v) hxs hM hq (fun op hop=>(hmem op hop).1) (fun op hop m hm=>absurd hm ((hmem op hop).2.1 m)) (fun op hop=>(hmem op hop).2.2)
      (hat0 _) (Nat.le_refl _) rfl rfl
     rw[List.set_set,Array.append_assoc] at hS
     have hS2:=hS.CP (Conc.served g₂ v)
     have hG2:=bq.got (m:=⟨k,v,w₁,V0⟩) (ms:=[]) hS2 fun j hj=>by
      have:=tc hS2.tra.wordless hj (j:=(t++MemOp.ofEvents (i+1) g2.frame.fn g2.frame.place es).size+3) (by rw[← Array.append_assoc];exact hat3 _) rfl
      exact this
     have hwe:(w₁.setChan C.c C.cap (Array.push (List.map (fun x=>x.v) ([]:List fN)).toArray v) false (D.length+([]:List fN).length+1) D.length C.tm).setChan C.c C.cap (([]:List fN).map (·.v)).toArray false (D.length+([]:List fN).length+1) (D.length+1) C.tm =
       w₁.setChan C.c C.cap #[] false (D.length+0+1) (D.length+1) C.tm:=by
      simp[World.setChan]
     rw[hwe] at hG2
     have hgs2:(gs.setIfInBounds 0 (Conc.served g₂ (recvd false v true))).setIfInBounds (i+1) (Conc.served g₃ undef)=(gs.setIfInBounds (i+1) (Conc.served g₃ undef)).setIfInBounds 0 (Conc.served g₂ v):=by
      show(gs.setIfInBounds 0 (Conc.served g₂ v)).setIfInBounds (i+1) (Conc.served g₃ undef)=_
      apply Array.ext_getElem?
      intro j
      simp only[Array.getElem?_setIfInBounds]
      by_cases e1:i+1=j<;> by_cases e2:0=j<;> simp_all
     rw[hgs2] at hrunT
     refine Fin.step (hst.trans hrunT) (hK _ (fw fun b hb=>(hI.lt _ _ .main b hb).2) _ _ _ _ ⟨k,v,w₁,V0⟩ ?_ hM (fw fun b hb=>(hI.lt _ _ (.act hx) b hb).2) (fun b h1 h2=>hdis b h2 h1) hG2)
     rw[Array.getElem?_setIfInBounds_self_of_lt (by have:=(Array.getElem?_eq_some_iff.1 h0).1;simpa using this)]
   | quit n=>
    cases n with
    | zero=>rw[show g1.status= .finished from hat] at hrun;cases hrun
    | succ n=>
     rcases hat with hf | ⟨_,g',hst',hq⟩
     ·rw[hf] at hrun;cases hrun
     have hrunT:=runT_crowd_go (P:=C.P) (sl:=sl') (i:=i+1) hi (by rw[hi0];exact hst' w₁)
     rw[hI.calm w₁ h0 (woken_recv_open _ _ hI.chan)] at hrunT
     have e:MemOp.ofEvents (i+1) g1.frame.fn g1.frame.place #[]= #[]:=by rw[ofEvents_eq];simp
     rw[e] at hrunT
     exact Fin.step (hst.trans hrunT) (ih _ (.qg (y:= .quit n) hx (Nat.lt_succ_self n)) (by rw[Array.append_empty];exact hI.slip hx hq) (set0 _) hK)
theorem JC.recv(hg:g.status= .running)(hlt:D.length<s)
  (h:∀w₁,Rel V w w₁→∃g₂ z es,stepG C.P true g w₁= .comm g₂ #[rcase C.c z] true (.recv false) w₁ es∧Gua C.Sh V w₁ w₁ es∧
   ∀(m:fN) w',Rel V w₁ w'→m.k<s→m.k∉D→C.Msg m.k m.v m.w m.V→Rel m.V m.w w'→(∀b,V b→m.V b→C.Sh b)→JC C s (m.k::D) (Conc.served g₂ m.v) w' (fun b=>V b∨m.V b) au):JC C s D g w V au:=by
 refine JC.next hg fun w₁ hr gs sl t ws ms h0 hI=>?_
 obtain⟨g₂,z,es,h1,h2,h3⟩:=h w₁ hr
 have hM:=hI.main (g':=g) (fn:=g.frame.fn) (pos:=g.frame.place) h2
 rw[bk] at hM
 have ax:gs.setIfInBounds 0 g=gs:=by
  apply Array.ext_getElem?
  intro j
  by_cases e:0=j
  ·subst e;rw[Array.getElem?_setIfInBounds_self_of_lt (Array.getElem?_eq_some_iff.1 h0).1,h0]
  ·rw[Array.getElem?_setIfInBounds_ne e]
 rw[ax] at hM
 have hp:partners (gs.setIfInBounds 0 ph) C.c true=[]:=by
  refine partners_nil fun j y hj=>?_
  rcases getElem?_stand gs 0 j y hj with⟨_,rfl⟩ | ⟨e,hj⟩
  ·exact offersAt_ph _ _
  ·exact hI.offers e hj _ _
 have h0lt:=(Array.getElem?_eq_some_iff.1 h0).1
 have fresh:∀{k:Nat} {D:List Nat} {l:List Nat},(l++k::D).Perm (List.range s)→k<s∧k∉D:=by
  intro k D l hp
  refine⟨List.mem_range.1 (hp.mem_iff.1 (by simp)),?_⟩
  have hn:(l++k::D).Nodup:=hp.nodup_iff.2 List.nodup_range
  exact(List.nodup_cons.1 (List.nodup_append.1 hn).2.1).1
 cases ms with
 | nil=>
  have hrun:=crowd_waits (P:=C.P) (sl:=sl) (i:=0) h0 (show stepG C.P (0==0) g w₁=_ from h1) (fun cc hcc=>by
   have:cc=rcase C.c z:=by simpa using hcc
   subst this
   exact ways_recv_none (by simpa using hI.chan) hp)
  refine⟨_,_,_,hrun,?_⟩
  refine bq.parked (g₂:=g₂) (z:=z) (V:=V) (s:=s) (D:=D) (hM.CP _) (by rw[Array.getElem?_setIfInBounds_self_of_lt h0lt]) hlt fun w' hr' gs' sl' t' ws' m hg' hm hmr hdj hI'=>?_
  have hf:=fresh (l:=fH ws') (by simpa using hI'.perm)
  exact h3 m w' hr' hf.1 hf.2 hm hmr hdj w' (.refl _ _) gs' sl' t' ws' [] hg' hI'
 | cons m ms=>
  have hrun:=crowd_recv_buf (P:=C.P) (sl:=sl) (i:=0) h0 (show stepG C.P (0==0) g w₁=_ from h1) hI.chan (by simp) hp
  rw[finishComm_recv] at hrun
  have hc:=(Array.getElem?_eq_some_iff.1 hI.chan).1
  generalize hu:(#[{g:=0,fn:=g₂.frame.fn,pos:=g₂.frame.place,act:= .recv C.c D.length C.cap},{g:=0,fn:=g₂.frame.fn,pos:=g₂.frame.place,act:= .recvDone C.c D.length}]:Array MemOp)=uu at hrun
  have hmem:∀op∈uu,op.act.touch? = none∧(∀m,op.act≠ .mark m)∧op.act.low w₁.heap.size:=by
   intro op hop
   rw[← hu] at hop
   simp at hop
   rcases hop with rfl | rfl<;> exact⟨rfl,by simp,hc⟩
  have hat1:∀(t0:Trace),(t0++uu)[t0.size+1]? = some {g:=0,fn:=g₂.frame.fn,pos:=g₂.frame.place,act:= .recvDone C.c D.length}:=fun t0=>by rw[Array.getElem?_append_right (by omega),← hu];simp
  have hH:=hM.KY (u:=uu) (fun op hop=>(hmem op hop).1) (fun op hop m hm=>absurd hm ((hmem op hop).2.1 m)) (fun op hop=>(hmem op hop).2.2)
  have hG:=(hH.CP (Conc.served g₂ m.v)).got fun i hi=>tc hH.tra.wordless hi (hat1 _) rfl
  rw[Array.append_assoc] at hG
  have hm:=hM.msgs m (by simp)
  have hf:=fresh (l:=fH ws++ms.map (·.k)) (by have:=hG.perm;simpa using this)
  have hbuf:((List.map (fun x=>x.v) (m::ms)).toArray.extract 1 (List.map (fun x=>x.v) (m::ms)).toArray.size)=(ms.map (·.v)).toArray:=by
   apply Array.ext'
   simp[Array.toList_extract,List.extract_eq_take_drop,List.take_of_length_le]
  have hval:(List.map (fun x=>x.v) (m::ms)).toArray.getD 0 undef=m.v:=by simp[Array.getD]
  rw[hbuf,hval,show D.length+(m::ms).length=D.length+ms.length+1 by simp;omega] at hrun
  refine⟨_,_,_,hrun,?_⟩
  have hm0:bA ws (m::ms) D.length V (.m D.length) m.V:=by
   have:bA ws (m::ms) D.length V (.m (D.length+0)) m.V:= .msg (by simp)
   simpa using this
  refine h3 m _ (fw fun b hb=>(hI.lt _ _ .main b hb).2) hf.1 hf.2 hm.1 (hm.2.trans (fw fun b hb=>(hI.lt _ _ hm0 b hb).2)) (fun b h1 h2=>hI.disj _ _ _ _ .main hm0 (by simp) b h1 h2) _ (.refl _ _) _ sl _ ws ms ?_ hG
  show(gs.setIfInBounds 0 (Conc.served g₂ m.v))[0]? = _
  rw[Array.getElem?_setIfInBounds_self_of_lt h0lt]
def Cm(C:Crw)(s:Nat)(D:List Nat):cw C.P where
 main:=true
 Sh:=C.Sh
 J:=fun g w V au=>JC C s D g w V fun s' D' g' w' V'=>s'=s∧D'=D∧au g' w' V'
 ret:=fun h=> .ret ⟨rfl,rfl,h⟩
 bind:=fun h hp=>h.bind fun s' D' g' w' V' ⟨e1,e2,h'⟩=>by subst e1;subst e2;exact hp _ _ _ h'
 step:=fun hs h=>JC.own hs h
end
end Go.Mu
namespace Go.Mu
open Go Go.Conc
structure cR(P:Program)(gs:Array Goroutine)(w:World)(t:Trace)(qs:List Nat):Prop where
 size:gs.size=qs.length+1
 at_:∀(i n:Nat),qs[i]? = some n→∃g,gs[i+1]? = some g∧eG P n g
 tra:Tra t w.heap.size
 all:∀i a,touchAt t i=some a→a.loc.isMemory=true→Knows t 0 i
def jC(P:Program)(au:Goroutine→World→(Nat→Prop)→Prop)(gs:Array Goroutine)(w:World)(sl:Option (Nat×Nat))(t:Trace):Prop:=
 ∃N gs' g' w₁ sl' t' V' w' qs',runNT P N (crowd gs w sl) t=(.next (crowd gs' w₁ sl'),t')∧gs'[0]? = some g'∧cR P gs' w₁ t' qs'∧Rel V' w' w₁∧au g' w' V'
def JB(P:Program)(g:Goroutine)(w:World)(V:Nat→Prop)(au:Goroutine→World→(Nat→Prop)→Prop):Prop:=
 ∀w₀,Rel V w w₀→∀gs sl t qs,gs[0]? = some g→cR P gs w₀ t qs→jC P au gs w₀ sl t
section
variable {P:Program}{gs:Array Goroutine}{w w':World}{t u:Trace}{V V' V₀:Nat→Prop}{qs:List Nat}{g:Goroutine}{sl:Option (Nat×Nat)}{au Post':Goroutine→World→(Nat→Prop)→Prop}
theorem JB.ret(h:au g w V):JB P g w V au:=fun w₀ hr gs sl t qs h0 hI=>⟨0,gs,g,w₀,sl,t,V,w,qs,rfl,h0,hI,hr,h⟩
theorem jC.bind(h:jC P au gs w sl t)(hp:∀g' w' V',au g' w' V'→JB P g' w' V' Post'):jC P Post' gs w sl t:=by
 obtain⟨N,gs',g',w₁,sl',t',V',w',qs',h1,h2,h3,h4,h5⟩:=h
 obtain⟨N2,gs2,g2,w2,sl2,t2,V2,w2',qs2,k1,k2⟩:=hp _ _ _ h5 w₁ h4 gs' sl' t' qs' h2 h3
 exact⟨N+N2,gs2,g2,w2,sl2,t2,V2,w2',qs2,by rw[runNT_add,h1];exact k1,k2⟩
theorem JB.bind(h:JB P g w V au)(hp:∀g' w' V',au g' w' V'→JB P g' w' V' Post'):JB P g w V Post':=
 fun w₀ hr gs sl t qs h0 hI=>(h w₀ hr gs sl t qs h0 hI).bind hp
theorem jC.step{gs':Array Goroutine}{sl':Option (Nat×Nat)}{ops:Trace}(h:stepT P (crowd gs w sl)=(.next (crowd gs' w' sl'),ops))(hf:jC P au gs' w' sl' (t++ops)):jC P au gs w sl t:=by
 obtain⟨N,gs2,g2,w2,sl2,t2,V2,w2',qs2,k1,k2⟩:=hf
 exact⟨N+1,gs2,g2,w2,sl2,t2,V2,w2',qs2,by rw[runNT_succ_next h];exact k1,k2⟩
theorem cR.get(h:cR P gs w t qs){i:Nat}{g:Goroutine}(hg:gs[i+1]? = some g):∃n,qs[i]? = some n∧eG P n g:=by
 have hi:=(Array.getElem?_eq_some_iff.1 hg).1
 have:i<qs.length:=by have:=h.size;omega
 obtain⟨g',h1,h2⟩:=h.at_ i _ (List.getElem?_eq_getElem this)
 rw[hg] at h1;cases h1
 exact⟨_,List.getElem?_eq_getElem this,h2⟩
theorem cR.calm(h:cR P gs w t qs){a a' g₀:Goroutine}(w₁:World)(h0:gs[0]? = some g₀)(hg:g₀.status= .running):gs.map (woken P a a' w₁)=gs:=by
 apply Array.ext_getElem?
 intro i
 rw[Array.getElem?_map]
 cases hi:gs[i]? with
 | none=>rfl
 | some g=>
  simp only[Option.map_some,Option.some.injEq]
  cases i with
  | zero=>rw[h0] at hi;cases hi;exact jA (.inl hg)
  | succ i=>
   obtain⟨x,_,hx⟩:=h.get hi
   exact jA hx.status
theorem cR.awake(h:cR P gs w t qs)(h0:gs[0]? = some g)(hg:awake g):∀g∈gs,awake g:=by
 intro x hx
 obtain⟨i,hi⟩:=Array.getElem?_of_mem hx
 cases i with
 | zero=>rw[h0] at hi;cases hi;exact hg
 | succ i=>
  obtain⟨y,_,hy⟩:=h.get hi
  exact awake_of (hy.status.elim .inl fun h=> .inr (.inr h))
theorem cR.draw(h:cR P gs w t qs)(d:Nat):cR P gs (w.at d) t qs:=⟨h.size,h.at_,h.tra,h.all⟩
theorem cR.acc(qs:List Nat):Acc (RL (· < ·) (fun a b:Nat=>b=a)) qs:=
 RL.acc (fun a a' h x hx=>by subst h;exact hx) (fun a b c h h'=>by subst h;exact h') fun a _=>Nat.lt_wfRel.wf.apply a
theorem cR.slip(h:cR P gs w t qs)(h0:gs[0]? = some g)(hg:g.status= .running){i:Nat}{g1:Goroutine}(hi:gs[i+1]? = some g1)(hr:g1.status= .running) :
  ∃gs' qs',runT P (crowd gs w sl) (i+1)=(.next (crowd gs' w sl),#[])∧gs'[0]? = some g∧cR P gs' w t qs'∧RL (· < ·) (fun a b:Nat=>b=a) qs' qs:=by
 obtain⟨n,hx,hat⟩:=h.get hi
 have hi0:((i+1:Nat)==0)=false:=by simp
 have hil:=(List.getElem?_eq_some_iff.1 hx).1
 cases n with
 | zero=>rw[show g1.status= .finished from hat] at hr;cases hr
 | succ n=>
  rcases hat with hf | ⟨_,g',hst,hq⟩
  ·rw[hf] at hr;cases hr
  have hrun:=runT_crowd_go (P:=P) (sl:=sl) (i:=i+1) hi (by rw[hi0];exact hst w)
  rw[h.calm w h0 hg] at hrun
  have e:MemOp.ofEvents (i+1) g1.frame.fn g1.frame.place #[]= #[]:=by rw[ofEvents_eq];simp
  rw[e] at hrun
  refine⟨_,qs.set i n,hrun,by rw[Array.getElem?_setIfInBounds_ne (by omega)];exact h0,⟨by simpa using h.size,fun j m hj=>?_,h.tra,h.all⟩,by simp,i,⟨n,n+1,List.getElem?_set_self hil,hx,Nat.lt_succ_self n⟩,fun j hj a b ha hb=>?_⟩
  ·by_cases e:i=j
   ·subst e
    rw[List.getElem?_set_self hil] at hj
    cases hj
    exact⟨g',by rw[Array.getElem?_setIfInBounds_self_of_lt (by have:=h.size;omega)],hq⟩
   ·rw[List.getElem?_set_ne e] at hj
    obtain⟨g2,h1,h2⟩:=h.at_ j m hj
    exact⟨g2,by rw[Array.getElem?_setIfInBounds_ne (by omega)];exact h1,h2⟩
  ·rw[List.getElem?_set_ne (Ne.symm hj),hb] at ha
   cases ha;rfl
theorem JB.next(hg:g.status= .running)(hk:∀w₁,Rel V w w₁→∀gs sl t qs,gs[0]? = some g→cR P gs w₁ t qs→∃gs' w' ops,runT P (crowd gs w₁ sl) 0=(.next (crowd gs' w' sl),ops)∧jC P au gs' w' sl (t++ops)) :
  JB P g w V au:=by
 intro w₀ hr gs sl t qs h0 hI
 have hacc:=cR.acc qs
 induction hacc generalizing w₀ gs sl t with
 | intro qs _ ih=>
  obtain⟨i,g1,d,sl',hi,hrun,hst⟩:=crowd_pick (P:=P) (w:=w₀) (sl:=sl) (hI.awake h0 (awake_of (.inl hg))) ⟨0,g,h0,hg⟩
  have hI':=hI.draw d
  have hr':=hr.trans (nu V w₀ d)
  cases i with
  | zero=>
   obtain⟨gs',w',ops,h1,h2⟩:=hk _ hr' gs sl' t qs h0 hI'
   exact jC.step (hst.trans h1) h2
  | succ i=>
   obtain⟨gs',qs',h1,h2,h3,h4⟩:=hI'.slip (sl:=sl') h0 hg hi hrun
   exact jC.step (hst.trans h1) (ih qs' h4 _ hr' gs' sl' _ h2 (by rw[Array.append_empty];exact h3))
theorem cR.main{g':Goroutine}{es:Array Event}{fn:FuncId}{pos:String}(h:cR P gs w t qs)(hG:Gua (fun _=>False) V w w' es):cR P (gs.setIfInBounds 0 g') w' (t++MemOp.ofEvents 0 fn pos es) qs:=by
 refine⟨by simpa using h.size,fun i n hx=>let⟨g,h1,h2⟩:=h.at_ i n hx;⟨g,by rw[Array.getElem?_setIfInBounds_ne (by omega)];exact h1,h2⟩,h.tra.own (c:=0) (p:=0) (fun i a b ha hb _=> .inr (h.all i a ha (by
   revert hb;cases a.loc<;> simp[ly,Loc.isMemory]))) hG.evs hG.size,fun i a ha hm=>?_⟩
 rcases db ha with⟨hi,ha'⟩ | ⟨op,hop,hx,hxa,_⟩
 ·exact(h.all i a ha' hm).app _
 ·have hg:op.g=0:=by obtain⟨e,_,rfl⟩:=Conc.mem_ofEvents hop;rfl
  have:=knows_own hx
  rw[hg] at this
  exact this
theorem cR.any{g':Goroutine}(h:cR P gs w t qs)(hB:w.heap.size≤w'.heap.size)(h0:∀op∈u,op.g=0)(hw:Wordless u)(hl:∀op∈u,op.act.low w'.heap.size):cR P (gs.setIfInBounds 0 g') w' (t++u) qs:=by
 refine⟨by simpa using h.size,fun i n hx=>let⟨g,h1,h2⟩:=h.at_ i n hx;⟨g,by rw[Array.getElem?_setIfInBounds_ne (by omega)];exact h1,h2⟩,
  ⟨fun said=>noRace_append (h.tra.clean said) h0 fun i a ha op hop x hx hc=>h.all i a ha hc.2.1,h.tra.wordless.append hw,seen_app (h.tra.mono hB).seen hl⟩,fun i a ha hm=>?_⟩
 rcases db ha with⟨hi,ha'⟩ | ⟨op,hop,hx,hxa,_⟩
 ·exact(h.all i a ha' hm).app _
 ·have:=knows_own hx
  rw[h0 op hop] at this
  exact this
theorem JB.own(hg:g.status= .running)(h:∀w₁,Rel V w w₁→∃g' w' es,stepG P true g w₁= .go g' w' es∧Gua (fun _=>False) V w₁ w' es∧JB P g' w' (ct V w₁.heap.size w'.heap.size) au):JB P g w V au:=by
 refine JB.next hg fun w₁ hr gs sl t qs h0 hI=>?_
 obtain⟨g',w',es,h1,h2,h3⟩:=h w₁ hr
 have hrun:=runT_crowd_go (P:=P) (sl:=sl) (i:=0) h0 (show stepG P (0==0) g w₁=_ from h1)
 rw[hI.calm w' h0 hg] at hrun
 refine⟨_,_,_,hrun,h3 w' (.refl _ _) _ sl _ qs ?_ (hI.main h2)⟩
 rw[Array.getElem?_setIfInBounds_self_of_lt (Array.getElem?_eq_some_iff.1 h0).1]
theorem JB.any(hg:g.status= .running)(h:∀w₁,Rel V w w₁→∃g' w' es V',stepG P true g w₁= .go g' w' es∧w₁.heap.size≤w'.heap.size∧
  (∀e∈es,(∀m,MemAct.ofEvent e= .mark m→Neutral m)∧(MemAct.ofEvent e).low w'.heap.size)∧JB P g' w' V' au):JB P g w V au:=by
 refine JB.next hg fun w₁ hr gs sl t qs h0 hI=>?_
 obtain⟨g',w',es,V',h1,h2,h3,h4⟩:=h w₁ hr
 have hrun:=runT_crowd_go (P:=P) (sl:=sl) (i:=0) h0 (show stepG P (0==0) g w₁=_ from h1)
 rw[hI.calm w' h0 hg] at hrun
 refine⟨_,_,_,hrun,h4 w' (.refl _ _) _ sl _ qs ?_ (hI.any h2 (fun op hop=>?_) (fun op hop m hm=>?_) fun op hop=>?_)⟩
 ·rw[Array.getElem?_setIfInBounds_self_of_lt (Array.getElem?_eq_some_iff.1 h0).1]
 ·obtain⟨e,he,rfl⟩:=Conc.mem_ofEvents hop;rfl
 ·obtain⟨e,he,rfl⟩:=Conc.mem_ofEvents hop;exact(h3 e he).1 m hm
 ·obtain⟨e,he,rfl⟩:=Conc.mem_ofEvents hop;exact(h3 e he).2
def Bes(P:Program):cw P where
 main:=true
 Sh:=fun _=>False
 J:=JB P
 ret:= .ret
 bind:=fun h hp=>h.bind hp
 step:=fun hs h=> .own hs h
/-! ### into a crowd and out of it -/
theorem getElem?_quit{qs:List Nat}{i:Nat}{x:WS}(h:(qs.map WS.quit)[i]? = some x):∃n,qs[i]? = some n∧x= .quit n:=by
 rw[List.getElem?_map] at h
 obtain⟨n,h1,h2⟩:=Option.map_eq_some_iff.1 h
 exact⟨n,h1,h2.symm⟩
theorem cR.crowd{C:Crw}(h:cR C.P gs w t qs)(hc:w.heap[C.c]? = some (.chan C.cap #[] false 0 0 C.tm))(hV:∀b,V₀ b→b<w.heap.size∧b≠C.c):bq C gs w t V₀ (qs.map WS.quit) [] 0 []:=by
 have hinv:∀h' V',bA (qs.map WS.quit) [] ([]:List Nat).length V₀ h' V'→h'= .g 0∧V'=V₀:=by
  intro h' V' hh
  cases hh with
  | main=>exact⟨rfl,rfl⟩
  | act hj=>obtain⟨n,_,e⟩:=getElem?_quit hj;cases e
  | msg hj=>simp at hj
 refine⟨by simpa using h.size,fun i x hx=>?_,by simpa using hc,by simp,?_,Nat.zero_le _,fun h' V' hh b hb=>?_,fun h1 h2 V1 V2 hh1 hh2 hne=>?_,fun h' V' hh=>?_,h.tra,fun i a ha hm=> .inl (h.all i a ha hm)⟩
 ·obtain⟨n,h1,rfl⟩:=getElem?_quit hx
  obtain⟨g,h2,h3⟩:=h.at_ i n h1
  exact⟨g,h2,h3⟩
 ·have:fH (qs.map WS.quit)=[]:=by
   unfold fH
   rw[List.filterMap_map]
   exact List.filterMap_eq_nil_iff.2 fun _ _=>rfl
  rw[this];simp
 ·obtain⟨_,rfl⟩:=hinv _ _ hh;exact hV b hb
 ·exact absurd ((hinv _ _ hh1).1.trans (hinv _ _ hh2).1.symm) hne
 ·obtain⟨rfl,rfl⟩:=hinv _ _ hh
  exact fun i a b ha hb _=> .inr (h.all i a ha (by revert hb;cases a.loc<;> simp[ly,Loc.isMemory]))
theorem bq.leave{C:Crw}{ws:List WS}{ms:List fN}{s:Nat}{D:List Nat}(h:bq C gs w t V ws ms s D)(hD:D.length=s):∃qs,cR C.P gs w t qs:=by
 have hl:=h.perm.length_eq
 simp at hl
 have ha:fH ws=[]:=List.eq_nil_of_length_eq_zero (by omega)
 have hm:ms=[]:=List.eq_nil_of_length_eq_zero (by omega)
 have hq:∀(i:Nat) x,ws[i]? = some x→∃n,x= .quit n:=by
  intro i x hx
  cases x with
  | quit n=>exact⟨n,rfl⟩
  | act k g w V=>
   have:k∈fH ws:=List.mem_filterMap.2 ⟨_,List.mem_of_getElem? hx,rfl⟩
   rw[ha] at this;simp at this
 refine⟨ws.map fun | .quit n=>n | .act _ _ _ _=>0,by simpa using h.size,fun i n hi=>?_,h.tra,fun i a ha' hm'=>?_⟩
 ·rw[List.getElem?_map] at hi
  obtain⟨x,h1,h2⟩:=Option.map_eq_some_iff.1 hi
  obtain⟨m,rfl⟩:=hq i x h1
  obtain⟨g,h3,h4⟩:=h.at_ i _ h1
  simp only at h2;subst h2
  exact⟨g,h3,h4⟩
 ·rcases h.all i a ha' hm' with h1 | ⟨j,k,g,w,V,h1,_⟩ | ⟨j,h1,_⟩
  ·exact h1
  ·obtain⟨n,e⟩:=hq j _ h1;cases e
  ·rw[hm] at h1;simp at h1
theorem bq.empty{C:Crw}{ws:List WS}{ms:List fN}{s:Nat}{D:List Nat}(h:bq C gs w t V ws ms s D)(hD:D.length=s):w.heap[C.c]? = some (.chan C.cap #[] false D.length D.length C.tm)∧D.Perm (List.range s):=by
 have hl:=h.perm.length_eq
 simp at hl
 have ha:fH ws=[]:=List.eq_nil_of_length_eq_zero (by omega)
 have hm:ms=[]:=List.eq_nil_of_length_eq_zero (by omega)
 subst hm
 have hp:=h.perm
 rw[ha] at hp
 exact⟨by simpa using h.chan,by simpa using hp⟩
theorem JB.crowd{C:Crw}{PostC:Nat→List Nat→Goroutine→World→(Nat→Prop)→Prop}{w:World}(hc:∀w₀,Rel V w w₀→w₀.heap[C.c]? = some (.chan C.cap #[] false 0 0 C.tm))(hV:∀b,V₀ b→V b∧b<w.heap.size∧b≠C.c)
  (h:JC C 0 [] g w V₀ PostC) (hx:∀s D g' w' V',PostC s D g' w' V'→D.length=s∧∀w₁,Rel V' w' w₁→w₁.heap[C.c]? = some (.chan C.cap #[] false D.length D.length C.tm)→D.Perm (List.range s)→∃V₁,JB C.P g' w₁ V₁ au):JB C.P g w V au:=by
 intro w₀ hr gs sl t qs h0 hI
 have hr0:Rel V₀ w w₀:=⟨hr.size,fun b hb hv=>hr.keep b hb (hV b hv).1,hr.os,hr.tape,hr.output⟩
 obtain⟨N,gs',g',w₁,sl',t',s',D',V',w',ws',ms',h1,h2,h3,h4,h5⟩:=h w₀ hr0 gs sl t _ [] h0 (hI.crowd (hc w₀ hr) fun b hb=>⟨Nat.lt_of_lt_of_le (hV b hb).2.1 hr.size,(hV b hb).2.2⟩)
 obtain⟨hD,hj⟩:=hx _ _ _ _ _ h5
 obtain⟨V₁,hj⟩:=hj w₁ h4 (h3.empty hD).1 (h3.empty hD).2
 obtain⟨qs',hL⟩:=h3.leave hD
 obtain⟨N2,gs2,g2,w2,sl2,t2,V2,w2',qs2,k1,k2⟩:=hj w₁ (.refl _ _) gs' sl' t' qs' h2 hL
 exact⟨N+N2,gs2,g2,w2,sl2,t2,V2,w2',qs2,by rw[runNT_add,h1];exact k1,k2⟩
/-! ### the run's end -/
theorem LU(P:Program)(a:Goroutine)(w:World):cR P #[a] w #[] []:=
 ⟨rfl,by simp,⟨fun said=>by rintro⟨i,j,_,⟨a,b,ha,_⟩,_⟩;simp[Trace.act?] at ha,by intro op hop;simp at hop,by intro op hop;simp at hop⟩,fun i a ha=>by simp[touchAt,Trace.act?] at ha⟩
def AtRet(P:Program)(Q:Value→World→Prop)(g:Goroutine)(w:World)(V:Nat→Prop):Prop:=
 g.status= .running∧∀w₁,Rel V w w₁→∃v es,stepG P true g w₁= .ended (.done v) w₁ es∧(∀e∈es,jw w₁.heap.size (fun b=>V b∧¬False) V w₁.heap.size e)∧Q v w₁
theorem cR.lW{Q:Value→World→Prop}(hI:cR P gs w t qs)(h0:gs[0]? = some g){V:Nat→Prop}{w0:World}(hr:Rel V w0 w)(h:AtRet P Q g w0 V) :
  ∃N last o w' t',runNT P (N+1) (Conc.crowd gs w sl) t=(.ended o w',t')∧runN P N (Conc.crowd gs w sl)= .next last∧step P last= .ended o w'∧Good P Q last o w' t':=by
 have hacc:=cR.acc qs
 induction hacc generalizing w gs sl t with
 | intro qs _ ih=>
  obtain⟨i,g1,d,sl',hi,hrun,hst⟩:=crowd_pick (P:=P) (w:=w) (sl:=sl) (hI.awake h0 (awake_of (.inl h.1))) ⟨0,g,h0,h.1⟩
  have hI':=hI.draw d
  have hr':=hr.trans (nu V w d)
  cases i with
  | zero=>
   rw[h0] at hi;cases hi
   obtain⟨v,es,h1,h2,h3⟩:=h.2 _ hr'
   have hrunT:=runT_many_ended (P:=P) (sl:=sl') (i:=0) h0 (show stepG P (0==0) g (w.at d)=_ from h1)
   have hM:=hI'.main (V:=V) (w':=w.at d) (g':=g) (fn:=g.frame.fn) (pos:=g.frame.place) (es:=es) ⟨Nat.le_refl _,fun _ _ _=>rfl,rfl,rfl,rfl,Nat.le_refl _,h2⟩
   have hst':=hst.trans hrunT
   refine⟨0,Conc.crowd gs w sl,.done v,w.at d,t++MemOp.ofEvents 0 g.frame.fn g.frame.place es,by simp[runNT,hst'],rfl,by simp[step,hst'],v,rfl,h3,hM.tra.clean,?_,⟨fun x hx=>?_,rfl⟩,fun j x hx hj=>?_⟩
   ·intro i p hp hne hc
    obtain⟨x,hx,hm,_⟩:=hc
    obtain⟨q,z,k1,k2,k3⟩:=hM.all i x hx hm
    rcases k3 with rfl | k3
    ·simp only[Trace.g?,k1,Option.map_some,Option.some.injEq] at hp
     exact absurd (hp.symm.trans k2) hne
    ·exact⟨q,by simp[Trace.g?,k1,k2],k3⟩
   ·obtain⟨j,hj⟩:=List.mem_iff_getElem?.1 hx
    rw[List.getElem?_drop] at hj
    have:gs[j+1]? = some x:=by rw[Nat.add_comm];simpa[Conc.crowd] using hj
    obtain⟨n,_,hq⟩:=hI.get this
    exact⟨n,hq.E5.leaves⟩
   ·cases j with
    | zero=>exact absurd rfl hj
    | succ j=>
     obtain⟨n,_,hq⟩:=hI.get hx
     refine⟨n,?_⟩
     rw[hM.tra.wordless.deaf]
     exact hq.E5.hears _
  | succ i=>
   obtain⟨gs',qs',h1,h2,h3,h4⟩:=hI'.slip (sl:=sl') h0 h.1 hi hrun
   obtain⟨N,last,o,w',t',k1,k2,k3,k4⟩:=ih qs' h4 (sl:=sl') (t:=t++#[]) (by rw[Array.append_empty];exact h3) h2 hr'
   have hst':=hst.trans h1
   exact⟨N+1,last,o,w',t',by rw[runNT_succ_next hst'];exact k1,by rw[runN_succ_next hst'];exact k2,k3,k4⟩
theorem JB.lW{Q:Value→World→Prop}(h:JB P g w V (AtRet P Q)) :
  ∃N last o w' t',runNT P (N+1) (solo g w) #[]=(.ended o w',t')∧runN P N (solo g w)= .next last∧step P last= .ended o w'∧Good P Q last o w' t':=by
 rw[solo_eq_crowd]
 obtain⟨N,gs',g',w₁,sl',t',V',w',qs',h1,h2,h3,h4,h5⟩:=h w (.refl _ _) #[g] none #[] [] rfl (LU P g w)
 obtain⟨N2,last,o,w2,t2,k1,k2,k3,k4⟩:=h3.lW (sl:=sl') h2 h4 h5
 refine⟨N+N2,last,o,w2,t2,?_,?_,k3,k4⟩
 ·rw[Nat.add_assoc,runNT_add,h1];exact k1
 ·have e:runN P N (Conc.crowd #[g] w none)= .next (Conc.crowd gs' w₁ sl'):=by rw[← runNT_fst _ _ _ #[],h1]
  rw[runN_add,e];exact k2
end
end Go.Mu
namespace Go.Mu
open Go Go.Conc
section
variable {P:Program}{main:Bool}{b:Frame}{a:Act}{k:List Item}{cs:List Frame}{w w':World}{ops:Array Oper}{i:Nat}{rest:List Nat}{o:Oper}
theorem iv{o:Oper}(h:o.guard=none)(ys:Nat→Option Bool):Region.wanted o ys=true:=by
 unfold Region.wanted;rw[h]
theorem vt{dst:Tmp}{ty t elem:TypeId}{sz:Operand}{pos:String}{after:Array Edge}{dir:ChanDir}{n:Nat}{inf:TypeInfo}(ho:ops[i]? = some ⟨some dst,.makeChan t sz,ty,pos,after,none⟩)(hs:a.eval sz= .int .i64 n)
  (hu:P.underlying t=some (.chan dir elem)) (hi:P.info? elem=some inf) (hn:(n:Int)≤9223372036854775807) (hb:(inf.bytes:Int)*n≤281474976710544) :
  ∃es,stepG P main (G (b.atR a (.inRegion ops (i::rest)::k)) cs) w= .go (G (b.atR (a.put (some dst) (.chan (some w.heap.size))) (.inRegion ops rest::k)) cs) (w.alloc (.chan n #[] false 0 0 false)) es∧∀e∈es,False:=by
 have hr:(execOp a.eval ⟨some dst,.makeChan t sz,ty,pos,after,none⟩).run P w= .ok (.value (.chan (some w.heap.size))) (w.alloc (.chan n #[] false 0 0 false)):=by
  simp only[execOp,hs,Sem.run_bind,Conc.run_makeChan hu hi .i64 n hn hb,Result.andThen_ok,Sem.run_pure]
 refine⟨_,pk ho (iv rfl _) (by simp) (.inl hr),fun e he=>?_⟩
 have:=jX he
 simp[execOp,hs,Conc.run_makeChan hu hi .i64 n hn hb,Conc.events_makeChan hu hi .i64 n hn hb] at this
theorem JM{ty:TypeId}{f:Operand}{ats:Array TypeId}{pos:String}{after:Array Edge}{fn:Fn}{first cap:Array Value}(ho:ops[i]? = some ⟨none,.go ⟨.value f,#[],ats⟩,ty,pos,after,none⟩)(hf:a.eval f= .func fn first cap) :
  stepG P main (G (b.atR a (.inRegion ops (i::rest)::k)) cs) w= .spawn (G (b.atR a (.inRegion ops rest::k)) cs) (born P {target:= .fn fn cap,args:=first}) w #[]:=by
 have hfin:∀v,(b.atR a (.inRegion ops (i::rest)::k)).finish v=b.atR a (.inRegion ops rest::k):=fun v=>by rw[Frame.finish_atR,ho];rfl
 have hr:(execOp a.eval ⟨none,.go ⟨.value f,#[],ats⟩,ty,pos,after,none⟩).runT P w #[]=(.ok (.spawn {target:= .fn fn cap,args:=first}) w,#[]):=by
  simp[execOp,resolve,hf,Deferred.ofValue,pure,bind,Sem.bind,Sem.runT]
 rw[iS ho (iv rfl _) (by simp)]
 simp only[stepG.apply,hr,hfin,if_true]
 simp[GStep.after,G,Frame.atR,born,seen]
theorem Cw{ty:TypeId}{c x:Operand}{pos:String}{after:Array Edge}(ho:ops[i]? = some ⟨none,.send c x,ty,pos,after,none⟩) :
  stepG P main (G (b.atR a (.inRegion ops (i::rest)::k)) cs) w= .comm (G (b.atR a (.inRegion ops (i::rest)::k)) cs) #[{chan:=a.eval c,send:=some (a.eval x),zero:= .tuple #[]}] true .send w #[]:=by
 have hr:(execOp a.eval ⟨none,.send c x,ty,pos,after,none⟩).runT P w #[]=(.ok (.comm #[{chan:=a.eval c,send:=some (a.eval x),zero:= .tuple #[]}] true .send) w,#[]):=by
  simp[execOp,pure,Sem.runT]
 rw[iS ho (iv rfl _) (by simp)]
 simp only[stepG.apply,hr,if_true]
 simp[GStep.after,G,Frame.atR,seen]
theorem E4{ty t elem:TypeId}{c:Operand}{dst:Tmp}{pos:String}{after:Array Edge}{ok:Bool}{dir:ChanDir}{inf:TypeInfo}{z:Value}(ho:ops[i]? = some ⟨some dst,.recv t c ok,ty,pos,after,none⟩)
  (hu:P.underlying t=some (.chan dir elem)) (hi:P.info? elem=some inf) (hz:inf.zero=some z) :
  ∃es,stepG P main (G (b.atR a (.inRegion ops (i::rest)::k)) cs) w= .comm (G (b.atR a (.inRegion ops (i::rest)::k)) cs) #[{chan:=a.eval c,send:=none,zero:=z}] true (.recv ok) w es∧∀e∈es,False:=by
 have ht:(typeInfo elem).run P w= .ok inf w:=by
  unfold typeInfo
  simp only[Sem.run_bind,run_program,Result.andThen_ok,hi,Sem.run_pure]
 have hz0:(zeroValue elem).run P w= .ok z w:=by
  unfold zeroValue
  simp only[Sem.run_bind,ht,Result.andThen_ok,hz,Sem.run_pure]
 have hr:(execOp a.eval ⟨some dst,.recv t c ok,ty,pos,after,none⟩).run P w= .ok (.comm #[{chan:=a.eval c,send:=none,zero:=z}] true (.recv ok)) w:=by
  simp only[execOp,Sem.run_bind,run_underlying hu,Result.andThen_ok,hz0,Sem.run_pure]
 have hev:(execOp a.eval ⟨some dst,.recv t c ok,ty,pos,after,none⟩).events P w #[]= #[]:=by
  simp[execOp,run_underlying hu,hz0,zeroValue,typeInfo,hi,hz]
 rw[iS ho (iv rfl _) (by simp)]
 refine⟨lst P b a ⟨some dst,.recv t c ok,ty,pos,after,none⟩ w,?_,fun e he=>?_⟩
 ·simp[stepG.apply,hr,G,Frame.atR,GStep.after,lst]
 ·have:=jX he
  rw[hev] at this;simp at this
theorem ux{v:Value}(ho:ops[i]? = some o):Conc.served (G (b.atR a (.inRegion ops (i::rest)::k)) cs) v=G (b.atR (a.put o.dst v) (.inRegion ops rest::k)) cs:=by
 unfold Conc.served
 simp only[G]
 rw[Frame.finish_atR,ho];rfl
theorem AB{ty:TypeId}{c:Operand}{ats:Array TypeId}{dst:Option Tmp}{pos:String}{after:Array Edge}{r cap s rc:Nat}{buf:Array Value}{tm:Bool}(ho:ops[i]? = some ⟨dst,.call ⟨.builtin .close,#[c],ats⟩,ty,pos,after,none⟩)(hc:a.eval c= .chan (some r))
  (h:w.heap[r]? = some (.chan cap buf false s rc tm)) :
  ∃es,stepG P main (G (b.atR a (.inRegion ops (i::rest)::k)) cs) w= .go (G (b.atR (a.put dst (.tuple #[])) (.inRegion ops rest::k)) cs) {w with heap:=w.heap.setIfInBounds r (.chan cap buf true s rc tm)} es∧
   ∀e∈es,e=⟨.obj r,false,true⟩∨e=⟨.obj r,true,true⟩:=by
 have hr:(execOp a.eval ⟨dst,.call ⟨.builtin .close,#[c],ats⟩,ty,pos,after,none⟩).run P w= .ok (.value (.tuple #[])) {w with heap:=w.heap.setIfInBounds r (.chan cap buf true s rc tm)}:=by
  simp[execOp,resolve,hc,invoke,builtin,run_close_open _ _ h]
 refine⟨_,pk ho (iv rfl _) (by simp) (.inl hr),fun e he=>?_⟩
 have:=jX he
 simpa[execOp,resolve,hc,invoke,builtin,run_close_open _ _ h,events_close_open _ _ h] using this
end
/-! ### a worker's birth and end -/
def base(P:Program)(ds:List Deferred):Frame:={(default:Frame) with fn:=P.funcs.size,defers:=ds,mode:= .panicking [goexitEntry]}
theorem aW.runT{P:Program}{f:FuncId}(h:aW P f)(args:Array Value)(w:World):(callFunc f args).runT P w #[]=(.ok (.enter f args) w,#[]):=by
 obtain⟨fn,h1,h2,h3⟩:=h.fn
 have h2':¬fn.name= "runtime.NumGoroutine" :=by simpa using h2
 have h3':¬fn.body=none:=fun e=>by rw[e] at h3;cases h3
 unfold callFunc program
 simp only[bind,Sem.bind,pure,Sem.runT,h1]
 simp[h2',h3',Sem.runT]
theorem Dx{P:Program}{main:Bool}{w:World}{f:FuncId}{first cap:Array Value}(h:aW P f) :
  stepG P main (born P {target:= .fn (.func f) cap,args:=first}) w= .go (G (Frame.enter P f (first++cap) .deferred) [base P []]) w #[]:=by
 have hr:(invoke (.fn (.func f) cap) first).runT P w #[]=(.ok (.enter f (first++cap)) w,#[]):=h.runT _ _
 simp only[stepG,born,unwind,callDeferred,hr]
 simp[GStep.after,seen,G,base]
theorem Ch{P:Program}{main:Bool}{w:World}{fr:Frame}{fn:Func}(hm:fr.mode= .returning)(hd:fr.defers=[])(hk:fr.kind= .deferred)(hf:P.funcs[fr.fn]? = some fn)(hr:fn.results= #[]) :
  stepG P main (G fr [base P []]) w= .go (G (base P []) []) w #[]:=by
 have h1:=results_none hr fr.tmps P w
 have h2:=events_results_none (P:=P) (w:=w) hr fr.tmps #[]
 simp[G,stepG,unwind,doReturn,hm,hd,hk,hf,h1,h2,GStep.after,seen,base,goexitEntry]
theorem zv(P:Program)(ds:List Deferred):Frame.catches P (base P ds)=false:=by
 have h:(base P ds).todo=[]:=rfl
 unfold Frame.catches
 rw[h]
 split<;> simp_all
theorem stepG_end{P:Program}{main:Bool}{w:World}:stepG P main (G (base P []) []) w= .go {frame:=base P [],callers:=[],status:= .finished,dying:=none} w #[]:=by
 have hc:=zv P []
 have e:∀(fr:Frame),fr=base P []→stepG P main (G fr []) w= .go {frame:=fr,callers:=[],status:= .finished,dying:=none} w #[]:=by
  intro fr hfr
  have h1:fr.defers=[]:=by rw[hfr];rfl
  have h2:fr.mode= .panicking [goexitEntry]:=by rw[hfr];rfl
  have h3:Frame.catches P fr=false:=by rw[hfr];exact hc
  simp[G,stepG,unwind,h1,h2,h3,goexitEntry]
 exact e _ rfl
theorem BD{P:Program}{b:Frame}{a:Act}{fn:Func}(hk:b.kind= .deferred)(hro:b.roundOf=none)(hd:a.defers=[])(hf:P.funcs[b.fn]? = some fn)(hr:fn.results= #[]) :
  eG P 3 (G (b.atR a []) [base P []]):=by
 refine .inr ⟨rfl,G {b.atR a [] with mode:= .returning} [base P []],fun w=>by simp[G,stepG,stepG.exec,Frame.atR,hro],.inr ⟨rfl,G (base P []) [],fun w=>?_,.inr ⟨rfl,_,fun w=>stepG_end,rfl⟩⟩⟩
 exact Ch rfl (by simpa[Frame.atR] using hd) (by simpa[Frame.atR] using hk) (by simpa[Frame.atR] using hf) hr
theorem JK.Qk{E:Env}{Sh:Nat→Prop}{b:Frame}{cs:List Frame}{V0:Nat→Prop}{K0:Kr}{σ0 σ:List aa}{w0:World}{c:Nat}{Msg:Value→World→(Nat→Prop)→Prop}{ops:Array Oper}{i:Nat}{k:List Item}{fr:Fr}
  {ty:TypeId} {ch x:Operand} {pos:String} {after:Array Edge} {v:AV} (ho:ops[i]? = some ⟨none,.send ch x,ty,pos,after,none⟩) (hc:aH fr ch=some (.chan (some c))) (hx:aH fr x=some v)
  (hM:∀K w V v',R K σ w→aU Sh V K σ w→aI V0 K0 σ0 w0 V K σ w→VR K σ.length v v'→Msg v' w V) {ds:List Deferred} {T:List (Nat×Value)} (hq:∀a,a.defers=ds→∃n,eG E.P n (G (b.atR a (.inRegion ops []::k)) cs)) :
  JK E (Co E.P Sh) b cs ds T V0 K0 σ0 w0 (AtSend E.P Sh c Msg) (.inRegion ops [i]::k) fr σ:=by
 intro K w V a hR hO hF hS hd hT
 refine CoJ.ret ⟨rfl,fun w₁ hr=>?_⟩
 have hR1:=hR.rely hO hr
 have hv:=ak hF hx
 have hcv:a.eval ch= .chan (some c):=by
  have:=ak hF hc
  generalize a.eval ch=z at this
  cases this;rfl
 have hst:=Cw (P:=E.P) (main:=false) (b:=b) (cs:=cs) (w:=w₁) (rest:=[]) (k:=k) (a:=a) ho
 rw[hcv] at hst
 refine⟨_,a.eval x,.tuple #[],_,hst,.idle _ _ _,hM K w₁ V _ hR1 (hO.rely hr) (hS.trans (.bN hr)) hv,?_⟩
 rw[ux ho]
 exact hq _ (by rw[put_defers];exact hd)
theorem WT.Pt{E:Env}{Sh V:Nat→Prop}{K:Kr}{w:World}{c:Nat}{Msg:Value→World→(Nat→Prop)→Prop}{f:FuncId}{fn:Func}{body:Code}{first cap:Array Value}{args:List AV}(kp:Nat→Bool)(hC:aW E.P f)(hf:E.P.funcs[f]? = some fn)(hb:fn.body=some body)(hN:fn.ntmps=E.N)(hA:args.length≤E.N)
  (hR:R K [] w) (hO:aU Sh V K [] w) (hV:VRs K 0 args (first++cap).toList)
  (h:∀w₁,Rel V w w₁→JK E (Co E.P Sh) {(default:Frame) with fn:=f,kind:= .deferred,roundOf:=none} [base E.P []] [] [] V K [] w₁ (AtSend E.P Sh c Msg) [.code body] ⟨kp,[],number 0 args⟩ []) :
  WT E.P Sh c Msg (born E.P {target:= .fn (.func f) cap,args:=first}) w V:=by
 refine(Co E.P Sh).step rfl fun w₁ hr=>⟨_,_,_,Dx hC,.idle _ _ _,?_⟩
 rw[bk]
 let b:Frame:={(default:Frame) with fn:=f,kind:= .deferred,roundOf:=none}
 have hcl:(first++cap).size=args.length:=by have:=hV.1;simpa using this.symm
 have henter:Frame.enter E.P f (first++cap) .deferred=b.atR {tmps:=(first++cap)++Array.replicate (fn.ntmps- (first++cap).size) undef,defers:=[]} [.code body]:=by
  simp[Frame.enter,Frame.atR,hf,hb,b]
 have hF:FR K 0 E.N ⟨kp,[],number 0 args⟩ ((first++cap)++Array.replicate (fn.ntmps- (first++cap).size) undef):=by
  refine⟨by simp at hcl⊢;omega,fun t v hv=>?_⟩
  have hv':(if kp t=true then ae (number 0 args) t else ae [] t)=some v:=hv
  split at hv'
  ·obtain⟨_,h2⟩:=lO args 0 t v hv'
   obtain⟨c,h3,h4⟩:=hV.get (i:=t) (by simpa using h2)
   have hlt:t<(first++cap).size:=by
    have:=(List.getElem?_eq_some_iff.1 h3).1;simpa using this
   refine⟨c,?_,h4⟩
   rw[Array.getElem?_append_left hlt,← Array.getElem?_toList]
   exact h3
  ·cases hv'
 rw[henter]
 exact h w₁ hr K w₁ V _ (hR.rely hO hr) (hO.rely hr) hF (.refl _ _ _ _) rfl (by simp)
end Go.Mu
namespace Go.Mu
open Go Go.Conc
theorem eY.mono{P:Program}{S:MC P}{r:Nat}{args:List AV}{σ:List aa}{X Y:AV→List aa→Prop}(h:eY S r args σ X)(hn:∀v σ,X v σ→Y v σ):eY S r args σ Y:=by
 intro K w cargs hR hV
 obtain⟨fn,tmps,assign,body,h1,h2⟩:=h K w cargs hR hV
 exact⟨fn,tmps,assign,body,h1,fun M hM V hO c cs=>M.bind (h2 M hM V hO c cs) fun g' w' V' ⟨v,c',σ',K',g1,g2,g3⟩=>M.ret ⟨v,c',σ',K',g1,hn _ _ g2,g3⟩⟩
def bZ(M:Nat→Prop)(σ σ':List aa):Prop:=σ.length≤σ'.length∧∀q,q<σ.length→¬M q→ai σ' q=ai σ q
def gh(M:Nat→Prop)(σ σ':List aa):Prop:=σ.length≤σ'.length∧∀q,M q→ai σ' q=ai σ q
theorem bZ.refl{M:Nat→Prop}{σ:List aa}:bZ M σ σ:=⟨Nat.le_refl _,fun _ _ _=>rfl⟩
theorem bZ.trans{M:Nat→Prop}{σ σ' σ'':List aa}(h:bZ M σ σ')(h':bZ M σ' σ''):bZ M σ σ'':=
 ⟨Nat.le_trans h.1 h'.1,fun q hq hm=>(h'.2 q (Nat.lt_of_lt_of_le hq h.1) hm).trans (h.2 q hq hm)⟩
theorem bZ.get{M:Nat→Prop}{σ σ':List aa}(h:bZ M σ σ'){q:Nat}{o:aa}(hg:ai σ q=some o)(hm:¬M q):ai σ' q=some o:=by
 rw[h.2 q (aN hg) hm];exact hg
theorem aB{σ l:List aa}{q:Nat}(h:q<σ.length):ai (σ++l) q=ai σ q:=by unfold ai;rw[List.getElem?_append_left h]
theorem bZ.app{M:Nat→Prop}{σ l:List aa}:bZ M σ (σ++l):=⟨by simp,fun q hq _=>aB hq⟩
theorem gh.app{M:Nat→Prop}{σ l:List aa}(h:∀q,M q→q<σ.length):gh M σ (σ++l):=⟨by simp,fun q hq=>aB (h q hq)⟩
structure kR{P:Program}(S:MC P)(r:Nat)(L:List AV) where
 M:Nat→Prop
 C:List AV→List aa→Prop
 St:List AV→List aa→Prop
 lt:∀{D σ q},C D σ→M q→q<σ.length
 keep:∀{D σ σ'},C D σ→gh M σ σ'→C D σ'
 keepS:∀{D σ σ'},St D σ→gh M σ σ'→St D σ'
 take:∀{D R σ v},L=D++v::R→C D σ→eY S r [v] σ fun u σ'=>bZ M σ σ'∧(u= .bool true∧C (D++[v]) σ'∨u= .bool false∧St (D++[v]) σ')
def Iter{P:Program}(S:MC P)(g:FuncId)(p q:List AV)(σ:List aa)(L:List AV):Prop:=
 ∀r (T:kR S r L) σ',(∀k,k<σ.length→ai σ' k=ai σ k∧¬T.M k)→σ.length≤σ'.length→T.C [] σ'→
  ao S g (p++[.yield r]++q) σ' fun _ σ''=>bZ T.M σ' σ''∧(T.C L σ''∨∃D v R,L=D++v::R∧T.St (D++[v]) σ'')
theorem cG{σ:List aa}{r q:Nat}{o:aa}:ai (ax σ r o) q=if r=q∧q<σ.length then some o else ai σ q:=by
 unfold ai ax
 rw[List.getElem?_set]
 by_cases h:r=q
 ·subst h
  by_cases h2:r<σ.length
  ·simp[h2]
  ·simp[h2]
 ·simp[h]
theorem aj.Hj{E:Env}{f:Operand}{ps:Array Tmp}{as body:Code}{k:List Item}{fr:Fr}{g:FuncId}{p q:List AV}{σ0 σ1:List aa}{Q:au}{L:List AV}(hf:aH fr f=some (.fn (.func g) p q))(hI:Iter E.S g p q σ0 L)(h0:σ0.length≤σ1.length)(hs:∀k,k<σ0.length→ai σ1 k=ai σ0 k)
  (hps:∃t,ps= #[t]∧t<E.N) (M0:Nat→Prop) (hM:∀q,M0 q→σ0.length≤q∧q<σ1.length) (Cc:List AV→List aa→Prop) (Sc:Code→List aa→Prop)
  (hC0:Cc [] σ1) (hCk:∀{D τ τ'},Cc D τ→(∀q,M0 q→ai τ' q=ai τ q)→Cc D τ') (hSk:∀{j τ τ'},Sc j τ→(∀q,M0 q→ai τ' q=ai τ q)→Sc j τ')
  (hb:∀D v R fn τ,L=D++v::R→Cc D τ→σ1.length<τ.length→ai τ σ1.length=some (.loop .ready none fn ps as body E.N fr)→
   aj E (some σ1.length) [.code as,.beginRound,.code body] (sB fr ps.toList [v]) τ fun j fr2 τ2=>bZ (fun q=>M0 q∨q=σ1.length) τ τ2∧(∃pend',ai τ2 σ1.length=some (.loop .busy pend' fn ps as body E.N fr))∧(j=none∧Cc (D++[v]) τ2∨∃jc,j=some jc∧(∀t,jc≠ .goto t)∧Sc jc τ2))
  (hk:∀τ,σ1.length<τ.length→(∀q,q<σ1.length→¬M0 q→ai τ q=ai σ1 q)→Cc L τ→aj E none k fr τ Q)
  (hk':∀τ j,σ1.length<τ.length→(∀q,q<σ1.length→¬M0 q→ai τ q=ai σ1 q)→Sc j τ→aj E none (.code j::k) fr τ Q) :
  aj E none (.code (.rangeFunc f ps as body)::k) fr σ1 Q:=by
 obtain⟨t0,rfl,ht0⟩:=hps
 refine aj.rangeFunc hf fun fn=>?_
 let rec0:aa:= .loop .ready none fn #[t0] as body E.N fr
 let T:kR E.S σ1.length L:={
  M:=fun q=>M0 q∨q=σ1.length
  C:=fun D τ=>σ1.length<τ.length∧ai τ σ1.length=some rec0∧Cc D τ
  St:=fun D τ=>σ1.length<τ.length∧∃j,ai τ σ1.length=some (.loop .done (some j) fn #[t0] as body E.N fr)∧Sc j τ
  lt:=fun{D σ q} hc hm=>by
   rcases hm with hm | hm
   ·exact Nat.lt_trans (hM q hm).2 hc.1
   ·subst hm;exact hc.1
  keep:=fun{D σ σ'} hc hs=>⟨Nat.lt_of_lt_of_le hc.1 hs.1,by rw[hs.2 _ (.inr rfl)];exact hc.2.1,hCk hc.2.2 fun q hq=>hs.2 q (.inl hq)⟩
  keepS:=fun{D σ σ'} hc hs=>⟨Nat.lt_of_lt_of_le hc.1 hs.1,by
   obtain⟨j,h1,h2⟩:=hc.2
   exact⟨j,by rw[hs.2 _ (.inr rfl)];exact h1,hSk h2 fun q hq=>hs.2 q (.inl hq)⟩⟩
  take:=fun{D R τ v} hL hc=>by
   obtain⟨c1,c2,c3⟩:=hc
   refine eY.of (E:=E) (args:=[v]) c2 rfl (by simpa using ht0) ((hb D v R fn τ hL c3 c1 c2).mono fun j fr2 τ2 hj=>?_)
   obtain⟨hsame,⟨pend',hp⟩,hcase⟩:=hj
   have hn:=aN hp
   have hne:∀q,M0 q→∀o,ai (ax τ2 σ1.length o) q=ai τ2 q:=fun q hq o=>by
    rw[cG,if_neg];intro h;have:=(hM q hq).2;omega
   refine⟨fun t ht=>?_,pend',hp,⟨by rw[aJ];exact hsame.1,fun q hq hm=>?_⟩,?_⟩
   ·rcases hcase with⟨h1,_⟩ | ⟨jc,h1,h2,_⟩
    ·rw[h1] at ht;cases ht
    ·rw[h1] at ht;simp at ht;exact h2 t ht
   ·rw[cG,if_neg (fun h=>hm (.inr h.1.symm))];exact hsame.2 q hq hm
   ·rcases hcase with⟨h1,h2⟩ | ⟨jc,h1,h2,h3⟩
    ·left
     subst h1
     refine⟨rfl,by rw[aJ];exact hn,?_,hCk h2 fun q hq=>hne q hq _⟩
     rw[cG,if_pos ⟨rfl,hn⟩];rfl
    ·right
     subst h1
     refine⟨rfl,by rw[aJ];exact hn,jc,?_,hSk h3 fun q hq=>hne q hq _⟩
     rw[cG,if_pos ⟨rfl,hn⟩];rfl}
 have hlen:(σ1++[rec0]).length=σ1.length+1:=by simp
 refine(hI σ1.length T (σ1++[rec0]) (fun k hk=>⟨by rw[aB (by omega)];exact hs k hk,fun hm=>?_⟩) (by omega) ⟨by omega,a8,hCk hC0 fun q hq=>aB (hM q hq).2⟩).mono fun v τ hv=>?_
 ·rcases hm with hm | hm
  ·have:=(hM k hm).1;omega
  ·omega
 ·obtain⟨hsame,hv⟩:=hv
  have hold:∀q,q<σ1.length→¬M0 q→ai (ax τ σ1.length .dead) q=ai σ1 q:=fun q hq hm=>by
   rw[cG,if_neg (fun h=>by omega),hsame.2 q (by omega) (fun h=>by rcases h with h | h;exact hm h;omega)]
   exact aB hq
  rcases hv with⟨c1,c2,c3⟩ | ⟨D,v',R,hL,c1,j,c2,c3⟩
  ·exact⟨.ready,none,by simp,c2,hk _ (by rw[aJ];exact c1) hold (hCk c3 fun q hq=>by
    rw[cG,if_neg];intro h;have:=(hM q hq).2;omega)⟩
  ·exact⟨.done,some j,by simp,c2,hk' _ j (by rw[aJ];exact c1) hold (hSk c3 fun q hq=>by
    rw[cG,if_neg];intro h;have:=(hM q hq).2;omega)⟩
theorem aj.qU{E:Env}{σ:List aa}{Q:au}{r:Nat}{k:List Item}{pend:Option Code}{fn:FuncId}{ps:Array Tmp}{as body:Code}{N:Nat}{fr fr0:Fr}(hg:ai σ r=some (.loop .ready pend fn ps as body N fr0))
  (h:∀τ,τ.length=σ.length→(∀q,q≠r→ai τ q=ai σ q)→ai τ r=some (.loop .busy pend fn ps as body N fr0)→aj E (some r) k fr τ Q):aj E (some r) (.beginRound::k) fr σ Q:=
 aj.beginRound hg (h _ aJ (fun q hq=>by rw[cG,if_neg];intro h;exact hq h.1.symm) (cN hg _))
theorem qR{σ τ:List aa}(hl:σ.length≤τ.length)(h:∀q,q<σ.length→ai τ q=ai σ q):∃junk,τ=σ++junk:=by
 refine⟨τ.drop σ.length,?_⟩
 apply List.ext_getElem?
 intro i
 by_cases hi:i<σ.length
 ·rw[List.getElem?_append_left hi];exact h i hi
 ·rw[List.getElem?_append_right (by omega),List.getElem?_drop];congr 1;omega
theorem oi{σ τ:List aa}{v v':AV}(hl:σ.length≤τ.length)(h:∀q,q<σ.length→ai τ q=ai σ q)(hw:wk v' v):jH σ v v' τ:=⟨qR hl h,hw⟩
theorem aj.zK{E:Env}{ro:Option Nat}{todo:List Item}{fr:Fr}{σ:List aa}{Q:Option Code→Fr→List aa→Prop}(r sz:Nat){sz0:Nat}(hg:ai σ r=some (.cells [.list .full sz0 []]))
  (h:aj E ro todo fr (ax σ r (.cells [.list (.own σ.length) sz []])++[.tail 0 sz]) Q):aj E ro todo fr σ Q:=by
 refine h.iK fun K w tmps hR hF=>?_
 obtain⟨cc,T,h1,h2,h3,h4⟩:=hR.obj r _ hg
 have hr:=aN hg
 obtain⟨c0,hc0⟩:∃c,cc.toList=[c]:=by
  have:=h2.1
  match hcc:cc.toList with
  | [c]=>exact⟨c,rfl⟩
  | []=>rw[hcc] at this;simp at this
  | _::_::_=>rw[hcc] at this;simp at this
 have hv:=h2
 rw[hc0] at hv
 have hv0:=hv.head
 cases hv0 with
 | list _ _ _ a cap f hl' ht ha hs h1' hh=>
  have hcap:cap=0:=ht
  subst hcap
  let K':Kr:={K with tl:=fun q=>if q=σ.length then fun m=>if m=0 then some (a,0) else none else K.tl q}
  have he:Ext σ.length K K':=⟨fun _ _=>rfl,fun r hr m x hx=>by
   show(if r=σ.length then _ else K.tl r) m=some x
   rw[if_neg (by omega)];exact hx,fun _ _ _ h=>h⟩
  have htl:K'.tl σ.length=fun m=>if m=0 then some (a,0) else none:=by
   show(if σ.length=σ.length then _ else _)=_
   rw[if_pos rfl]
  obtain⟨r1,r2⟩:=hR.iV (σ':=σ++[.tail 0 sz]) σ.length (.tail 0 sz) K' he (by simp) (by simp) (fun q o' hq hg=>by
   rw[List.getElem?_append] at hg
   split at hg
   ·exact hg
   ·cases hk:q-σ.length with
    | zero=>omega
    | succ j=>rw[hk] at hg;simp at hg) (fun q hq=>by show(if q=σ.length then _ else K.tl q)=_;rw[if_neg hq]) rfl (fun b hb=>by
   obtain⟨a',cap',g1,g2,_⟩:=hb
   rw[htl] at g1;simp at g1;omega) ⟨a,0,by rw[htl];rfl,Nat.le_refl _,fun k hk=>by rw[htl];simp;omega,fun h=>by omega⟩
  have hg':ai (σ++[.tail 0 sz]) r=some (.cells [.list .full sz0 []]):=by rw[aB hr];exact hg
  obtain⟨cc2,T2,k1,k2,k3,k4⟩:=hR.obj r _ hg
  have hw:∀cc3 T3,w.heap[K.φ r]? = some (.cells cc3 T3 (0,0))→cc3=cc:=fun cc3 T3 hh=>by
   rw[h1] at hh;simp at hh;exact hh.1.symm
  obtain⟨cc4,T4,l1,l2,l3,l4⟩:=r1.obj r _ hg'
  have e4:cc4=cc:=hw cc4 T4 l1
  obtain⟨s1,s2⟩:=r1.fP (o':= .cells [.list (.own σ.length) sz []]) hg' (K'.φ r) rfl K' (.refl _ _) (fun _ _=>rfl) (fun _ _=>rfl) rfl (fun _ _ _=>rfl) (fun p v hv=>r1.stab _ _ _ hv) (fun b hb=>hb) ⟨cc,T,h1,by
   rw[hc0]
   exact .cons (.list (.own σ.length) sz [] a 0 f (Nat.le_refl _) ⟨by simp,by rw[htl];rfl⟩ (fun h=>absurd rfl h) (fun i hi=>by simp at hi) (fun i j hi=>by simp at hi) (fun i j hi=>by simp at hi)) .nil,h3,h4⟩ rfl rfl rfl
  have eset:(σ++[aa.tail 0 sz]).set r (.cells [.list (.own σ.length) sz []])=ax σ r (.cells [.list (.own σ.length) sz []])++[.tail 0 sz]:=by
   unfold ax;rw[List.set_append_left _ _ hr]
  rw[eset] at s1 s2
  refine⟨K',s1,?_,r2.trans s2⟩
  have:(ax σ r (.cells [.list (.own σ.length) sz []])++[aa.tail 0 sz]).length=σ.length+1:=by simp[aJ]
  rw[this]
  exact hF.mono he (by omega)
theorem aj.sR{E:Env}{ro:Option Nat}{todo:List Item}{fr:Fr}{σ:List aa}{Q:Option Code→Fr→List aa→Prop}(r k sz:Nat){sz0:Nat}{cs:List AV}(hg:ai σ r=some (.cells cs))(hk:cs[k]? = some (.list .full sz0 []))
  (h:aj E ro todo fr (ax σ r (.cells (cs.set k (.list (.own σ.length) sz [])))++[.tail 0 sz]) Q):aj E ro todo fr σ Q:=by
 refine h.iK fun K w tmps hR hF=>?_
 obtain⟨cc,T,h1,h2,h3,h4⟩:=hR.obj r _ hg
 have hr:=aN hg
 obtain⟨hkl,hke⟩:=List.getElem?_eq_some_iff.1 hk
 have hkl':k<cc.toList.length:=by rw[← h2.1];exact hkl
 have hv0:=h2.2 k hkl hkl'
 rw[hke] at hv0
 generalize hc0:cc.toList[k]=c0 at hv0
 cases hv0 with
 | list _ _ _ a cap f hl' ht ha hs h1' hh=>
  have hcap:cap=0:=ht
  subst hcap
  let K':Kr:={K with tl:=fun q=>if q=σ.length then fun m=>if m=0 then some (a,0) else none else K.tl q}
  have he:Ext σ.length K K':=⟨fun _ _=>rfl,fun r hr m x hx=>by
   show(if r=σ.length then _ else K.tl r) m=some x
   rw[if_neg (by omega)];exact hx,fun _ _ _ h=>h⟩
  have htl:K'.tl σ.length=fun m=>if m=0 then some (a,0) else none:=by
   show(if σ.length=σ.length then _ else _)=_
   rw[if_pos rfl]
  obtain⟨r1,r2⟩:=hR.iV (σ':=σ++[.tail 0 sz]) σ.length (.tail 0 sz) K' he (by simp) (by simp) (fun q o' hq hg=>by
   rw[List.getElem?_append] at hg
   split at hg
   ·exact hg
   ·cases hk:q-σ.length with
    | zero=>omega
    | succ j=>rw[hk] at hg;simp at hg) (fun q hq=>by show(if q=σ.length then _ else K.tl q)=_;rw[if_neg hq]) rfl (fun b hb=>by
   obtain⟨a',cap',g1,g2,_⟩:=hb
   rw[htl] at g1;simp at g1;omega) ⟨a,0,by rw[htl];rfl,Nat.le_refl _,fun k hk=>by rw[htl];simp;omega,fun h=>by omega⟩
  have hg':ai (σ++[.tail 0 sz]) r=some (.cells cs):=by rw[aB hr];exact hg
  have h2':VRs K' (σ++[aa.tail 0 sz]).length (cs.set k (.list (.own σ.length) sz [])) cc.toList:=by
   refine⟨by rw[List.length_set];exact h2.1,fun i h5 h6=>?_⟩
   by_cases e:k=i
   ·subst e
    rw[List.getElem_set_self]
    have:cc.toList[k]= .slice a 0 0:=hc0
    rw[this]
    exact .list (.own σ.length) sz [] a 0 f (Nat.le_refl _) ⟨by simp,by rw[htl];rfl⟩ (fun h=>absurd rfl h) (fun i hi=>by simp at hi) (fun i j hi=>by simp at hi) (fun i j hi=>by simp at hi)
   ·rw[List.getElem_set_ne e]
    exact(h2.2 i (by rw[List.length_set] at h5;exact h5) h6).mono he (by simp)
  obtain⟨s1,s2⟩:=r1.fP (o':= .cells (cs.set k (.list (.own σ.length) sz []))) hg' (K'.φ r) rfl K' (.refl _ _) (fun _ _=>rfl) (fun _ _=>rfl) rfl (fun _ _ _=>rfl) (fun p v hv=>r1.stab _ _ _ hv) (fun b hb=>hb) ⟨cc,T,h1,h2',h3,h4⟩ rfl rfl rfl
  have eset:(σ++[aa.tail 0 sz]).set r (.cells (cs.set k (.list (.own σ.length) sz [])))=ax σ r (.cells (cs.set k (.list (.own σ.length) sz [])))++[.tail 0 sz]:=by
   unfold ax;rw[List.set_append_left _ _ hr]
  rw[eset] at s1 s2
  refine⟨K',s1,?_,r2.trans s2⟩
  have:(ax σ r (.cells (cs.set k (.list (.own σ.length) sz [])))++[aa.tail 0 sz]).length=σ.length+1:=by simp[aJ]
  rw[this]
  exact hF.mono he (by omega)
end Go.Mu
