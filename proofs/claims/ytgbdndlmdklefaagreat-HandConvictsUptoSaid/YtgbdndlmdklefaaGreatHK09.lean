/- Part V of the abstract layer: statements whose order is drawn: the theorem. -/
import Derived.Test.YtgbdndlmdklefaaGreatHK08
set_option linter.unusedSimpArgs false
set_option linter.unusedVariables false
namespace Go.Mu
open Go Go.Conc
variable {ro:Option Nat}{n:Nat}
variable {C:Ctx}{X:Nat→Prop}{L1 L2:List (Nat×List Nat)}{eb:Nat→Nat}{V:Nat→Prop}{K:Kr}{σ:List aa}{w:World}{fr:Fr}{a:Act}
theorem ri{E:Env}{all:List Oper}:∀{rs:List Nat} {r:Nat},recheck E all fr σ rs→r∈rs→mE E all fr σ (eA all r)
 | [],_,_,h=>by cases h
 | x::rs,r,h,hr=>by
  rcases List.mem_cons.1 hr with rfl | hr
  ·exact h.1
  ·exact ri h.2 hr
theorem Inv.Um(hD:DOK C){p:Nat×List Nat}(h:Inv C X L1 (p::L2) eb V K σ w fr a)(hx:¬X p.1){o:Oper}(ho:C.ops[p.1]? = some o)(hn:dB p o=false)(hA:isA C.E.ty C.E.N o=false)(hr:∀e∈o.after,Region.binds .any e=true→X e.on)
  {KK:Act→World→(Nat→Prop)→Prop} (hk:∀V' K' σ' w' fr' a',Inv C (fun j=>X j∨j=p.1) (L1++[p]) L2 eb V' K' σ' w' fr' a'→KK a' w' V'):e7 C.M C.ops p.1 KK a w V:=by
 have hpL:p∈C.L:=by rw[h.split];simp
 have hs2:C.L=(L1++[p])++L2:=by rw[h.split];simp
 have hpos:∀q∈L2,∃A B,C.L=A++B∧p∈A∧q∈B:=fun q hq=>⟨L1++[p],L2,hs2,by simp,hq⟩
 have hne:∀q∈L2,p.1≠q.1:=fun q hq e=>by
  have hq':C.ops[q.1]? = some o:=by rw[← e];exact ho
  exact(hD.two hs2 (by simp) hq ho hq').ne e
 have hF:=h.looks hD hpL hx ho hr (fun q hq hX=>by
  rcases List.mem_cons.1 hq with rfl | hq
  ·exact absurd hX hx
  ·exact hpos q hq) (fun e=>by rw[hn] at e;cases e) (fun _ q hq e=>by
   subst e
   exact(hD.two h.split hq (List.mem_cons_self ..) ho ho).ne rfl)
 have hev:=Mz hn (hD.xB hpL ho).1 (oG ho) h.ev
 obtain⟨i,rs⟩:=p
 simp only[iq] at hev
 have hfin:∀K' σ' w' V' v c,br C.E C.ops.toList rs L2 o.dst fr C.Q v σ'→R K' σ' w'→aU C.M.Sh V' K' σ' w'→VR K' σ'.length v c→aI V K σ w V' K' σ' w'→KK (a.put o.dst c) w' V':=by
  intro K' σ' w' V' v c g0 g1 g1' g2 g3
  obtain⟨fr',hfr,hrec,hev',hN⟩:∃fr',(fr'=match o.dst with | none=>fr | some d=>fr.put d v)∧recheck C.E C.ops.toList fr' σ' rs∧evD C.E C.ops.toList L2 fr' σ' C.Q∧∀d,o.dst=some d→d<C.E.N:=by
   unfold br at g0
   cases hd:o.dst with
   | none=>rw[hd] at g0;exact⟨_,rfl,g0.1,g0.2,fun d h=>by cases h⟩
   | some d=>rw[hd] at g0;exact⟨_,rfl,g0.2.1,g0.2.2,fun d' h=>by simp at h;subst h;exact g0.1⟩
  have ai:∀t,o.dst≠some t→fr'.get t=fr.get t:=fun t ht=>by
   subst hfr
   cases hd:o.dst with
   | none=>rfl
   | some d=>
    simp only
    rw[Fr.get_put,if_neg (fun e=>ht (by rw[hd,e]))]
  refine hk V' K' σ' w' fr' _ ⟨hs2,hev',fun j oj hj hX e he hbd=>?_,fun q hq=>?_,fun q hq hX=>?_,fun q hq q' hq' h1 h2=>?_,?_,fun t u hu=>?_,g1,g1',h.step.trans g3,?_⟩
  ·rcases hX with hX | rfl
   ·exact .inl (h.closed j oj hj hX e he hbd)
   ·simp only at ho;rw[ho] at hj;simp at hj;subst hj;exact .inl (hr e he hbd)
  ·rcases List.mem_append.1 hq with hq | hq
   ·rcases h.p1 q hq with m | ⟨oq,m1,m2,b,u,l1,l2,l3,l4⟩
    ·exact .inl (.inl m)
    ·have h2:=hD.two h.split hq (q:=(i,rs)) (by simp) m1 ho
     rcases h2.eff with m | m | m | m | ⟨m3,m4⟩
     ·rw[hn] at m;cases m
     ·rw[hA] at m;cases m
     ·rw[m2] at m;cases m
     ·exact .inl (.inl (vx hD.masks h.closed q.1 i o ho hr m))
     ·have hlk:∀t∈oq.looksAt C.ops,fr.get t=fr'.get t:=fun t ht=>(ai t fun e=>m3 t e (List.mem_append_right _ ht)).symm
      have hdst:∀d,oq.dst=some d→fr'.get d=fr.get d:=fun d hd=>ai d fun e=>m3 d e (List.mem_append_left _ (by rw[hd];simp))
      refine .inr ⟨oq,m1,m2,b,?_⟩
      have hw':bK C.ops.toList fr' oq.guard=some b:=by rw[← jm hlk];exact l1
      cases hl:isL oq.op with
      | false=>
       refine⟨u,hw',fun hb=>?_,l3,fun d hd=>⟨(l4 d hd).1,by rw[hdst d hd];exact(l4 d hd).2⟩⟩
       rw[← nW _ (np hlk)]
       exact Kz (qq m2) hl (l2 hb)
      | true=>
       have hre:=ri hrec (m4 hl)
       rw[oG m1] at hre
       simp only[mE,hw'] at hre
       cases b with
       | false=>
        refine⟨u,hw',fun hb=>(by cases hb),l3,fun d hd=>⟨(l4 d hd).1,by rw[hdst d hd];exact(l4 d hd).2⟩⟩
       | true=>
        simp only at hre
        cases hh:hop C.E.ty fr' σ' oq.op with
        | none=>rw[hh] at hre;exact hre.elim
        | some q2=>
         obtain⟨v',σx⟩:=q2
         rw[hh] at hre
         have ha:nop C.E fr' σ' oq.type oq.op=some (v',σx):=by rw[LD hl];exact hh
         have e:=Up (qq m2) ha
         refine⟨v',hw',fun _=>by rw[ha,e],fun hb=>(by cases hb),fun d hd=>⟨(l4 d hd).1,?_⟩⟩
         rw[hd] at hre
         exact hre
   ·simp at hq;subst hq;exact .inl (.inr rfl)
  ·have hX':X q.1:=hX.resolve_right fun e=>hne q hq e.symm
   exact h.early hD g3 ho (List.mem_cons_of_mem _ hq) hX' (hpos q hq)
  ·exact h.inj q (by simp[hq]) q' (by simp[hq']) (h1.resolve_right fun e=>hne q hq e.symm) (h2.resolve_right fun e=>hne q' hq' e.symm)
  ·rw[rW];exact h.fsz
  ·by_cases e:o.dst=some t
   ·refine .inl ⟨c,?_,?_⟩
    ·rw[e];simp[Act.put,h.fsz,hN t e]
    ·subst hfr
     rw[e] at hu
     simp only[Fr.get_put,if_true,Option.some.injEq] at hu
     subst hu;exact g2
   ·rw[ai t e] at hu
    rcases h.fr t u hu with⟨c',m1,m2⟩ | ⟨q,m1,m2,oq,m3,m4⟩ | ⟨q,m1,m2,m3⟩
    ·exact .inl ⟨c',by rw[m9 e];exact m1,m2.mono g3.ext g3.len⟩
    ·refine .inr (.inl ⟨q,by simp[m1],fun hX=>?_,oq,m3,m4⟩)
     rcases hX with hX | hX
     ·exact m2 hX
     ·simp only at ho;rw[hX,ho] at m3;simp at m3;subst m3;exact e m4
    ·rcases List.mem_cons.1 m1 with rfl | m1
     ·exact absurd m2 hx
     ·exact .inr (.inr ⟨q,m1,.inl m2,m3⟩)
  ·rw[put_defers];exact h.defers
 split at hev
 ·exact hev.elim
 ·rename_i b hb
  have hb':bK C.ops.toList (fr.only (o.looksAt C.ops)) o.guard=some b:=by rw[← jm mw];exact hb
  have hw:=gk hF hb'
  cases b with
  | false=>exact .unwanted ho hw fun w₁ hre=>hfin K σ w₁ V _ undef (hev.2 rfl) (h.rel.rely h.own hre) (h.own.rely hre) fK (.bN hre)
  | true=>
   have hv:=hev.1 rfl
   rw[Gl _ (np (mw (ops:=C.ops)))] at hv
   exact kx hD.E hD.M ho hw hv h.rel h.own hF fun K' σ' w' V' v c g0 g1 g1' g2 g3=>hfin K' σ' w' V' v c g0 g1 g1' g2 g3
theorem Inv.done(hD:DOK C)(h:Inv C X L1 L2 eb V K σ w fr a)(hall:∀i,i<C.ops.size→X i):mS C.E C.M.Sh C.V0 C.K0 C.σ0 C.w0 C.ds C.Q a w V:=by
 have hL:∀p∈C.L,X p.1:=fun p hp=>by
  have h1:=hD.self p hp
  unfold pC at h1
  cases ho:C.ops[p.1]? with
  | none=>rw[ho] at h1;cases h1
  | some o=>exact hall _ (Array.getElem?_eq_some_iff.1 ho).1
 obtain⟨K',σ',fr',h1⟩:=Inv.Nd hD (M:=L2) (L2:=[]) (by simpa using h) (fun p hp=> .inl (hL p (by rw[h.split];simp[hp])))
 refine⟨K',σ',fr',h1.ev,h1.rel,h1.own,⟨h1.fsz,fun t v hv=>?_⟩,h1.step,h1.defers⟩
 rcases h1.fr t v hv with m | ⟨q,m1,m2,_⟩ | ⟨q,m1,_⟩
 ·exact m
 ·exact absurd (hL q (by rw[h1.split];simpa using m1)) m2
 ·cases m1
def left(size:Nat)(listed:Array Bool):Nat:=((List.range size).filter fun i=>listed.getD i true==false).length
theorem filter_lt{α:Type}{p q:α→Bool}(hpq:∀x,q x=true→p x=true):∀{l:List α} {y:α},y∈l→p y=true→q y=false→(l.filter q).length<(l.filter p).length
 | x::l,y,hy,h1,h2=>by
  have hle:∀l:List α,(l.filter q).length≤(l.filter p).length:=by
   intro l
   induction l with
   | nil=>simp
   | cons z l ih=>
    by_cases hz:q z=true
    ·rw[List.filter_cons_of_pos hz,List.filter_cons_of_pos (hpq z hz)];simp;exact ih
    ·rw[List.filter_cons_of_neg hz]
     by_cases hz':p z=true
     ·rw[List.filter_cons_of_pos hz'];simp;omega
     ·rw[List.filter_cons_of_neg hz'];exact ih
  rcases List.mem_cons.1 hy with rfl | hy
  ·rw[List.filter_cons_of_pos h1,List.filter_cons_of_neg (by rw[h2];simp)]
   have:=hle l;simp;omega
  ·have ih:=filter_lt hpq hy h1 h2
   by_cases hz:q x=true
   ·rw[List.filter_cons_of_pos hz,List.filter_cons_of_pos (hpq x hz)];simp;exact ih
   ·rw[List.filter_cons_of_neg hz]
    by_cases hz':p x=true
    ·rw[List.filter_cons_of_pos hz'];simp;omega
    ·rw[List.filter_cons_of_neg hz'];exact ih
def sI{P:Program}(M:cw P)(ops:Array Oper)(Q:Act→World→(Nat→Prop)→Prop):Nat→Array Bool→Act→World→(Nat→Prop)→Prop
 | 0,listed,a,w,V=>Region.ready .any ops listed=[]∧Q a w V
 | fuel+1,listed,a,w,V=>(Region.ready .any ops listed=[]→Q a w V)∧∀i∈Region.ready .any ops listed,e7 M ops i (sI M ops Q fuel (listed.setIfInBounds i true)) a w V
theorem zV{P:Program}{M:cw P}{ops:Array Oper}{Q:Act→World→(Nat→Prop)→Prop}:∀(fuel t:Nat) (listed:Array Bool) (a:Act) (w:World) (V:Nat→Prop),sI M ops Q fuel listed a w V→
  cY M ops Q (Region.linearise.go .any ops fuel t listed []) a w V:=by
 intro fuel
 induction fuel with
 | zero=>intro t listed a w V h;simpa[Region.linearise.go,cY] using h.2
 | succ fuel ih=>
  intro t listed a w V h
  obtain⟨h₀,h₁⟩:=h
  simp only[Region.linearise.go]
  change cY M ops Q (match (Region.ready .any ops listed)[t%(Region.ready .any ops listed).length]? with
   | some i=>Region.linearise.go .any ops fuel (t/(Region.ready .any ops listed).length) (listed.setIfInBounds i true) [i]
   | none=>[].reverse) a w V
  cases hi:(Region.ready .any ops listed)[t%(Region.ready .any ops listed).length]? with
  | none=>
   have hnil:Region.ready .any ops listed=[]:=by
    cases hr:Region.ready .any ops listed with
    | nil=>rfl
    | cons x xs=>
     rw[hr] at hi
     have hlt:t%(x::xs).length<(x::xs).length:=Nat.mod_lt _ (by simp)
     simp at hi
     simp at hlt
     omega
   simpa[cY] using h₀ hnil
  | some i=>
   simp only[]
   rw[linearise_go_acc,List.reverse_singleton,List.singleton_append]
   show e7 M ops i _ a w V
   exact(h₁ i (List.mem_of_getElem? hi)).mono fun a w V=>ih _ _ a w V
theorem Vp(hD:DOK C):∀(fuel:Nat) (listed:Array Bool) (L1 L2:List (Nat×List Nat)) (eb:Nat→Nat) (V:Nat→Prop) (K:Kr) (σ:List aa) (w:World) (fr:Fr) (a:Act),listed.size=C.ops.size→left C.ops.size listed≤fuel→
  Inv C (fun j=>listed.getD j false=true) L1 L2 eb V K σ w fr a→sI C.M C.ops (mS C.E C.M.Sh C.V0 C.K0 C.σ0 C.w0 C.ds C.Q) fuel listed a w V:=by
 have ai:∀(listed:Array Bool) (j:Nat),listed.size=C.ops.size→j<C.ops.size→listed.getD j true=listed.getD j false:=fun listed j hs hj=>by
  have:j<listed.size:=by omega
  simp[Array.getD,this]
 have hrdy:∀(listed:Array Bool),listed.size=C.ops.size→Region.ready .any C.ops listed=[]→∀i,i<C.ops.size→listed.getD i false=true:=by
  intro listed hs hr i
  induction i using Nat.strongRecOn with
  | _ i ih=>
   intro hi
   cases hc:listed.getD i false with
   | true=>rfl
   | false=>
    exfalso
    have ho:C.ops[i]? = some C.ops[i]:=Array.getElem?_eq_getElem hi
    have h1:=List.all_eq_true.1 hD.masks i (List.mem_range.2 hi)
    simp only[ho,Bool.and_eq_true,beq_iff_eq,List.all_eq_true,Bool.or_eq_true,Bool.not_eq_true',decide_eq_true_eq] at h1
    have hmem:i∈Region.ready .any C.ops listed:=mem_ready.2 ⟨by rw[ai listed i hs hi];exact hc,_,ho,fun e he hb=>by
     have hlt:e.on<i:=by
      rcases h1.2 e (by simpa using he) with h5 | h5
      ·rw[hb] at h5;cases h5
      ·exact h5
     exact ih e.on hlt (by omega)⟩
    rw[hr] at hmem;cases hmem
 have hsome:∀(listed:Array Bool),left C.ops.size listed=0→listed.size=C.ops.size→∀i,i<C.ops.size→listed.getD i false=true:=by
  intro listed h0 hs i hi
  cases hc:listed.getD i false with
  | true=>rfl
  | false=>
   unfold left at h0
   have hnil:=List.length_eq_zero_iff.1 h0
   have:i∈((List.range C.ops.size).filter fun i=>listed.getD i true==false):=List.mem_filter.2 ⟨List.mem_range.2 hi,by rw[ai listed i hs hi,hc];rfl⟩
   rw[hnil] at this;cases this
 intro fuel
 induction fuel with
 | zero=>
  intro listed L1 L2 eb V K σ w fr a hs hl h
  have hall:=hsome listed (by omega) hs
  refine⟨?_,h.done hD hall⟩
  apply List.eq_nil_iff_forall_not_mem.2
  intro i hi
  obtain⟨h1,o,ho,_⟩:=mem_ready.1 hi
  have hlt:=(Array.getElem?_eq_some_iff.1 ho).1
  rw[ai listed i hs hlt,hall i hlt] at h1;cases h1
 | succ fuel ih=>
  intro listed L1 L2 eb V K σ w fr a hs hl h
  refine⟨fun hr=>h.done hD (hrdy listed hs hr),fun i hi=>?_⟩
  obtain⟨h1,o,ho,hdeps⟩:=mem_ready.1 hi
  have hlt:=(Array.getElem?_eq_some_iff.1 ho).1
  rw[ai listed i hs hlt] at h1
  have hx:¬listed.getD i false=true:=by rw[h1];simp
  -- the set grows
  have ax:(fun j=>(listed.setIfInBounds i true).getD j false=true)=fun j=>listed.getD j false=true∨j=i:=by
   funext j
   apply propext
   by_cases e:i=j
   ·subst e;simp[hs,hlt]
   ·rw[getD_set_ne false e]
    constructor
    ·intro h;exact .inl h
    ·rintro(h | h)
     ·exact h
     ·exact absurd h.symm e
  have hleft:left C.ops.size (listed.setIfInBounds i true)≤fuel:=by
   have:left C.ops.size (listed.setIfInBounds i true)<left C.ops.size listed:=by
    refine filter_lt (fun x hx=>?_) (List.mem_range.2 hlt) (by rw[ai listed i hs hlt,h1];rfl) ?_
    ·by_cases e:i=x
     ·subst e;simp[hs,hlt] at hx
     ·rw[getD_set_ne true e] at hx;exact hx
    ·simp[hs,hlt]
   omega
  have hcont:∀L1 L2 eb V' K' σ' w' fr' a',Inv C (fun j=>listed.getD j false=true∨j=i) L1 L2 eb V' K' σ' w' fr' a'→sI C.M C.ops (mS C.E C.M.Sh C.V0 C.K0 C.σ0 C.w0 C.ds C.Q) fuel (listed.setIfInBounds i true) a' w' V':=by
   intro L1 L2 eb V' K' σ' w' fr' a' h'
   exact ih _ L1 L2 eb V' K' σ' w' fr' a' (by simpa using hs) hleft (by rw[ax];exact h')
  obtain⟨p,hpL,rfl⟩:=hD.all i hlt
  have hpL':=hpL
  rw[h.split] at hpL'
  rcases List.mem_append.1 hpL' with hp | hp
  ·exact h.Ny hD hp hx ho hdeps fun K' w' V' a' h'=>hcont _ _ _ _ _ _ _ _ _ h'
  ·cases hA:isA C.E.ty C.E.N o with
   | true=>exact h.UB hD hp hx ho hA hdeps fun eb' w' V' a' h'=>hcont _ _ _ _ _ _ _ _ _ h'
   | false=>
    obtain⟨M,M',rfl⟩:=List.append_of_mem hp
    obtain⟨K1,σ1,fr1,h2⟩:=Inv.Nd hD (M:=M) (L2:=p::M') h (fun q hq=>by
     have hqL:q∈C.L:=by rw[h.split];simp[hq]
     have hq1:=hD.self q hqL
     unfold pC at hq1
     cases hoq:C.ops[q.1]? with
     | none=>rw[hoq] at hq1;cases hq1
     | some oq=>
      have hs3:C.L=(L1++M)++(p::M'):=by rw[h.split];simp
      rcases(hD.two hs3 (p:=q) (q:=p) (by simp[hq]) (by simp) hoq ho).dep with m | m | m
      ·rw[hA] at m;cases m
      ·exact .inr ⟨oq,rfl,m⟩
      ·exact .inl (vx hD.masks h.closed q.1 p.1 o ho hdeps m))
    cases hn:dB p o with
    | true=>
     obtain⟨fr2,h3⟩:=h2.P1 hD hx ho hn
     exact h3.Ny hD (by simp) hx ho hdeps fun K' w' V' a' h'=>hcont _ _ _ _ _ _ _ _ _ h'
    | false=>exact h2.Um hD hx ho hn hA hdeps fun V' K' σ' w' fr' a' h'=>hcont _ _ _ _ _ _ _ _ _ h'
theorem aj.drawn{E:Env}(hE:cm E){id:Nat}{ops:Array Oper}(c:List Nat×List (Nat×List Nat))(hL:uk E.ty E.N ops c=true){k:List Item}{fr:Fr}{σ:List aa}{Q:Option Code→Fr→List aa→Prop}
  (h:evD E ops.toList c.2 fr σ fun fr σ=>aj E ro k fr σ Q):aj E ro (.code (.region id ops true)::k) fr σ Q:=by
 intro M hM K w V a b cs hb hR hO hF
 refine M.step rfl fun w₁ hr=>⟨_,_,_,show stepG E.P M.main (G (b.atR a (.code (.region id ops true)::k)) cs) w₁= .go (G (b.atR a (.inRegion ops (Region.schedule (E.P.follows .mixedOrders) ops (w₁.tape w₁.drawn (.order b.fn id)))::k)) cs) {w₁ with drawn:=w₁.drawn+1} by
  simp[G,stepG,stepG.exec,Frame.atR,choose,Sem.run,Question.forced,Question.cut],.drew _ _ _,?_⟩
 let w1:World:={w₁ with drawn:=w₁.drawn+1}
 have hr1:Rel V w w1:=⟨hr.size,hr.keep,hr.os,hr.tape,hr.output⟩
 have hn:ct V w₁.heap.size w1.heap.size=V:=bk
 rw[hn]
 have hR1:R K σ w1:=hR.rely hO hr1
 have hO1:aU M.Sh V K σ w1:=hO.rely hr1
 let C:Ctx:=⟨E,M,V,ops,c.1,c.2,K,σ,w1,a.defers,fun fr σ=>aj E ro k fr σ Q⟩
 have hD:DOK C:=DOK.of (C:=C) hE hM hL
 have hI:Inv C (fun j=>(Array.replicate ops.size false).getD j false=true) [] c.2 (fun _=>0) V K σ w1 fr a:=by
  have hno:∀j,¬((Array.replicate ops.size false).getD j false=true):=fun j h=>by
   by_cases hj:j<ops.size<;> simp[hj,Array.getElem?_replicate] at h
  refine⟨rfl,h,fun j o _ hX=>absurd hX (hno j),fun p hp=>(by cases hp),fun p _ hX=>absurd hX (hno _),fun p _ q _ hX=>absurd hX (hno _),hF.1,fun t v hv=> .inl (hF.2 t v hv),hR1,hO1,.refl _ _ _ _,rfl⟩
 have hw:=Vp hD ops.size (Array.replicate ops.size false) [] c.2 (fun _=>0) V K σ w1 fr a (by simp;rfl) (by
  unfold left
  exact Nat.le_trans (List.length_filter_le _ _) (by simp;exact Nat.le_refl _)) hI
 have hw2:=zV _ (w₁.tape w₁.drawn (.order b.fn id)) _ _ _ _ hw
 have hsch:Region.schedule (E.P.follows .mixedOrders) ops (w₁.tape w₁.drawn (.order b.fn id))=Region.linearise.go .any ops ops.size (w₁.tape w₁.drawn (.order b.fn id)) (Array.replicate ops.size false) []:=by
  simp only[Region.schedule,hE.mixed,Bool.true_or,if_true]
  rfl
 rw[hsch]
 refine cY.run ?_ _ _ _ _ hw2
 rintro a' w' V' ⟨K',σ',fr',hq,h2,h3,h4,h5,h6⟩
 refine M.step rfl fun w₂ hr2=>⟨_,_,_,show stepG E.P M.main (G (b.atR a' (.inRegion ops []::k)) cs) w₂= .go (G (b.atR a' k) cs) w₂ by simp[G,stepG,stepG.exec,Frame.atR],.idle _ _ _,?_⟩
 rw[bk]
 exact aj.go (hq M hM) (hb.mono h5.ext h5.len) (h2.rely h3 hr2) (h3.rely hr2) h4 (((aI.bN hr1).trans h5).trans (.bN hr2)) h6
end Go.Mu
namespace Go.Mu
open Go Go.Conc
variable {E:Env}{ro:Option Nat}{K:Kr}
def ev(E:Env)(ro:Option Nat):Nat→List Item→Fr→List aa→au→Prop
 | 0,todo,fr,σ,Q=>aj E ro todo fr σ Q
 | _+1,[],fr,σ,Q=>Q none fr σ
 | n+1,.inBlock _::k,fr,σ,Q=>ev E ro n k fr σ Q
 | n+1,.inScope _::k,fr,σ,Q=>ev E ro n k fr σ Q
 | n+1,.code c::k,fr,σ,Q=>
  match c with
  | .skip=>ev E ro n k fr σ Q
  | .label _=>ev E ro n k fr σ Q
  | .seq x y=>ev E ro n (.code x:: .code y::k) fr σ Q
  | .block id x=>ev E ro n (.code x:: .inBlock id::k) fr σ Q
  | .scope x=>ev E ro n (.code x:: .inScope x::k) fr σ Q
  | .cond c x y=>match aH fr c with
   | some (.bool t)=>(t=true→ev E ro n (.code x::k) fr σ Q)∧(t=false→ev E ro n (.code y::k) fr σ Q)
   | _=>False
  | .exit id=>match exitTo id k with
   | some k'=>ev E ro n k' fr σ Q
   | none=>Q (some (.exit id)) fr σ
  | .goto l=>match gotoIn l k with
   | some k'=>ev E ro n k' fr σ Q
   | none=>False
  | .ret=>Q (some .ret) fr σ
  | .region id ops draw=>if draw then evD E ops.toList (E.ord id).2 fr.eC σ (ev E ro n k · · Q) else cX E ops.toList ops.toList fr.eC σ (ev E ro n k · · Q)
  | c=>aj E ro (.code c::k) fr.eC σ Q
 | _+1,todo,fr,σ,Q=>aj E ro todo fr.eC σ Q
def dm(E:Env):Code→Bool
 | .region id ops draw=> !draw||uk E.ty E.N ops (E.ord id)
 | .seq a b=>dm E a&&dm E b
 | .cond _ a b=>dm E a&&dm E b
 | .block _ a=>dm E a
 | .loop a=>dm E a
 | .scope a=>dm E a
 | .rangeFunc _ _ a b=>dm E a&&dm E b
 | _=>true
def nt(E:Env):Item→Bool
 | .code c=>dm E c
 | .inLoop c=>dm E c
 | .inScope c=>dm E c
 | _=>true
def dG(E:Env)(todo:List Item):Bool:=todo.all (nt E)
theorem cE{i:Item}{k:List Item}:dG E (i::k)=(nt E i&&dG E k):=rfl
theorem pB{id:Nat}:∀{k k':List Item},exitTo id k=some k'→dG E k=true→dG E k'=true
 | [],_,h,_=>by simp[exitTo] at h
 | i::k,k',h,hk=>by
  rw[cE,Bool.and_eq_true] at hk
  cases i with
  | inBlock id'=>
   simp only[exitTo] at h
   split at h
   ·simp at h;subst h;exact hk.2
   ·exact pB h hk.2
  | _=>simp only[exitTo] at h;exact pB (k:=k) h hk.2
theorem zn{l:Nat}:∀{c c':Code},findLabel c l=some c'→dm E c=true→dm E c'=true:=by
 intro c
 induction c with
 | seq a b iha ihb=>
  intro c' h hc
  simp only[dm,Bool.and_eq_true] at hc
  simp only[findLabel] at h
  split at h
  ·rename_i r hr
   simp at h;subst h
   simp only[dm,Bool.and_eq_true]
   exact⟨iha hr hc.1,hc.2⟩
  ·exact ihb h hc.2
 | label l'=>
  intro c' h hc
  simp only[findLabel] at h
  split at h
  ·simp at h;subst h;rfl
  ·cases h
 | _=>intro c' h hc;simp[findLabel] at h
theorem oZ{l:Nat}:∀{k k':List Item},gotoIn l k=some k'→dG E k=true→dG E k'=true
 | [],_,h,_=>by simp[gotoIn] at h
 | i::k,k',h,hk=>by
  have hk0:=hk
  rw[cE,Bool.and_eq_true] at hk
  cases i with
  | inScope c=>
   simp only[gotoIn] at h
   split at h
   ·rename_i r hr
    simp at h;subst h
    rw[cE,Bool.and_eq_true]
    exact⟨zn hr hk.1,hk0⟩
   ·exact oZ h hk.2
  | _=>simp only[gotoIn] at h;exact oZ (k:=k) h hk.2
theorem sa{all:List Oper}{Q Q':Fr→List aa→Prop}(hq:∀fr σ,Q fr σ→Q' fr σ):∀{L:List (Nat×List Nat)} {fr:Fr} {σ:List aa},evD E all L fr σ Q→evD E all L fr σ Q'
 | [],fr,σ,h=>hq _ _ h
 | (i,rs)::L,fr,σ,h=>by
  rw[oe] at h⊢
  have hn:∀rs dst v σ',br E all rs L dst fr Q v σ'→br E all rs L dst fr Q' v σ':=fun rs dst v σ' h=>by
   unfold br at h⊢
   split at h
   ·exact⟨h.1,sa hq h.2⟩
   ·exact⟨h.1,h.2.1,sa hq h.2.2⟩
  cases hb:rs==[i] with
  | true=>
   rw[hb] at h
   cases ho:eA all i with
   | none=>rw[ho] at h;exact h
   | some o=>
    rw[ho] at h
    simp only[nX,lH] at h⊢
    cases hw:bK all fr o.guard with
    | none=>rw[hw] at h;exact h.elim
    | some b=>
     rw[hw] at h
     refine⟨fun hb=>?_,fun hb=>hn _ _ _ _ (h.2 hb)⟩
     have h:=h.1 hb
     unfold nI EB at h⊢
     cases hv:ox E fr o.op with
     | none=>rw[hv] at h;exact h
     | some v=>rw[hv] at h;exact hn _ _ _ _ h
  | false=>
   rw[hb] at h
   cases ho:eA all i with
   | none=>rw[ho] at h;exact h
   | some o=>
    rw[ho] at h
    simp only[nX,iq] at h⊢
    cases hw:bK all fr o.guard with
    | none=>rw[hw] at h;exact h.elim
    | some b=>
     rw[hw] at h
     exact⟨fun hb=>vX (hn _ _) (h.1 hb),fun hb=>hn _ _ _ _ (h.2 hb)⟩
theorem aR(hE:cm E){Q:au}:∀{n:Nat} {todo:List Item} {fr:Fr} {σ:List aa},dG E todo=true→ev E ro n todo fr σ Q→aj E ro todo fr σ Q
 | 0,todo,fr,σ,_,h=>h
 | n+1,[],fr,σ,_,h=> .leave .nil h
 | n+1,i::k,fr,σ,ho,h=>by
  cases i with
  | inBlock _=>exact .inBlock (aR hE (by rw[cE,Bool.and_eq_true] at ho;exact ho.2) h)
  | inScope _=>exact .inScope (aR hE (by rw[cE,Bool.and_eq_true] at ho;exact ho.2) h)
  | code c=>
   rw[cE,Bool.and_eq_true] at ho
   obtain⟨hc,hk⟩:=ho
   cases c with
   | skip=>exact .skip (aR hE hk h)
   | label _=>exact .label (aR hE hk h)
   | seq x y=>
    simp only[nt,dm,Bool.and_eq_true] at hc
    exact .seq (aR hE (by simp only[cE,nt,hc.1,hc.2,hk,Bool.and_self]) h)
   | block id x=>exact .block (aR hE (by rw[cE,cE,Bool.and_eq_true,Bool.and_eq_true];exact⟨hc,rfl,hk⟩) h)
   | scope x=>exact .scope (aR hE (by rw[cE,cE,Bool.and_eq_true,Bool.and_eq_true];exact⟨hc,hc,hk⟩) h)
   | cond c x y=>
    simp only[nt,dm,Bool.and_eq_true] at hc
    simp only[ev] at h
    split at h
    ·rename_i t hcc
     refine .cond hcc ?_
     cases t
     ·exact aR hE (by rw[cE,Bool.and_eq_true];exact⟨hc.2,hk⟩) (h.2 rfl)
     ·exact aR hE (by rw[cE,Bool.and_eq_true];exact⟨hc.1,hk⟩) (h.1 rfl)
    ·exact h.elim
   | exit id=>
    simp only[ev] at h
    split at h
    ·rename_i k' hk';exact .exit hk' (aR hE (pB hk' hk) h)
    ·rename_i hk';exact .leave (.exit id k hk') h
   | goto l=>
    simp only[ev] at h
    split at h
    ·rename_i k' hk';exact .goto hk' (aR hE (oZ hk' hk) h)
    ·exact h.elim
   | ret=>exact .leave (.ret k) h
   | region id ops draw=>
    simp only[ev] at h
    split at h
    ·rename_i hd
     simp only[nt,dm,hd,Bool.not_true,Bool.false_or] at hc
     subst hd
     exact .eC (.drawn hE _ hc (sa (fun fr σ h=>aR hE hk h) h))
    ·rename_i hd
     simp at hd;subst hd
     exact .eC (.region hE (jI (fun fr σ h=>aR hE hk h) h))
   | loop x=>exact .eC h
   | rangeFunc f p x y=>exact .eC h
   | refuse w=>exact .eC h
  | _=>exact .eC h
def evK(E:Env)(ro:Option Nat)(n:Nat)(k:List Item)(Q:au)(fr:Fr)(σ:List aa):Prop:=ev E ro n k fr σ Q
section rules
variable {n:Nat}{k:List Item}{fr:Fr}{σ:List aa}{Q:au}
theorem RM:evK E ro n k Q fr σ=ev E ro n k fr σ Q:=rfl
theorem Qc:ev E ro (n+1) [] fr σ Q=Q none fr σ:=rfl
theorem DG{id:Nat}:ev E ro (n+1) (.inBlock id::k) fr σ Q=ev E ro n k fr σ Q:=rfl
theorem Er{c:Code}:ev E ro (n+1) (.inScope c::k) fr σ Q=ev E ro n k fr σ Q:=rfl
theorem IX{c:Code}:ev E ro (n+1) (.inLoop c::k) fr σ Q=aj E ro (.inLoop c::k) fr.eC σ Q:=rfl
theorem Ox:ev E ro (n+1) (.code .skip::k) fr σ Q=ev E ro n k fr σ Q:=rfl
theorem JS{l:Nat}:ev E ro (n+1) (.code (.label l)::k) fr σ Q=ev E ro n k fr σ Q:=rfl
theorem Qh{x y:Code}:ev E ro (n+1) (.code (.seq x y)::k) fr σ Q=ev E ro n (.code x:: .code y::k) fr σ Q:=rfl
theorem K4{id:Nat}{x:Code}:ev E ro (n+1) (.code (.block id x)::k) fr σ Q=ev E ro n (.code x:: .inBlock id::k) fr σ Q:=rfl
theorem K5{x:Code}:ev E ro (n+1) (.code (.scope x)::k) fr σ Q=ev E ro n (.code x:: .inScope x::k) fr σ Q:=rfl
theorem OP{c:Operand}{x y:Code}:ev E ro (n+1) (.code (.cond c x y)::k) fr σ Q=match aH fr c with
   | some (.bool t)=>(t=true→ev E ro n (.code x::k) fr σ Q)∧(t=false→ev E ro n (.code y::k) fr σ Q)
   | _=>False:=rfl
theorem Pw{id:Nat}:ev E ro (n+1) (.code (.exit id)::k) fr σ Q=match exitTo id k with
   | some k'=>ev E ro n k' fr σ Q
   | none=>Q (some (.exit id)) fr σ:=rfl
theorem Pp{l:Nat}:ev E ro (n+1) (.code (.goto l)::k) fr σ Q=match gotoIn l k with
   | some k'=>ev E ro n k' fr σ Q
   | none=>False:=rfl
theorem Rx:ev E ro (n+1) (.code .ret::k) fr σ Q=Q (some .ret) fr σ:=rfl
theorem Gf{id:Nat}{ops:List Oper}:ev E ro (n+1) (.code (.region id ops.toArray false)::k) fr σ Q=cX E ops ops fr.eC σ (evK E ro n k Q):=rfl
theorem Pg{c:Code}:ev E ro (n+1) (.code (.loop c)::k) fr σ Q=aj E ro (.code (.loop c)::k) fr.eC σ Q:=rfl
theorem xS{id id':Nat}:exitTo id (.inBlock id'::k)=if id'=id then some k else exitTo id k:=by
 simp[exitTo,beq_iff_eq]
theorem BG{id:Nat}{c:Code}:exitTo id (.code c::k)=exitTo id k:=rfl
theorem AQ{id:Nat}{c:Code}:exitTo id (.inLoop c::k)=exitTo id k:=rfl
theorem zY{id:Nat}{c:Code}:exitTo id (.inScope c::k)=exitTo id k:=rfl
theorem Ep{id:Nat}:exitTo id []=none:=rfl
theorem Pb{id:Nat}{ops:List Oper}:ev E ro (n+1) (.code (.region id ops.toArray true)::k) fr σ Q=evD E ops (E.ord id).2 fr.eC σ (evK E ro n k Q):=rfl
@[congr] theorem U3{n:Nat}{todo:List Item}{fr fr':Fr}{σ σ':List aa}{Q:au}(h1:fr=fr')(h2:σ=σ'):ev E ro n todo fr σ Q=ev E ro n todo fr' σ' Q:=by rw[h1,h2]
@[congr] theorem UQ{k:List Item}{Q:au}{fr fr':Fr}{σ σ':List aa}(h1:fr=fr')(h2:σ=σ'):evK E ro n k Q fr σ=evK E ro n k Q fr' σ':=by rw[h1,h2]
end rules
section draws
variable {all:List Oper}{fr:Fr}{σ:List aa}{Q:Fr→List aa→Prop}{L:List (Nat×List Nat)}{rs:List Nat}
theorem PA:evD E all [] fr σ Q=Q fr σ:=rfl
@[congr] theorem UP{fr':Fr}{σ':List aa}{L L':List (Nat×List Nat)}(h0:L=L')(h1:fr=fr')(h2:σ=σ'):evD E all L fr σ Q=evD E all L' fr' σ' Q:=by rw[h0,h1,h2]
@[congr] theorem TR{fr':Fr}{σ':List aa}{o o':Option Oper}(h0:o=o')(h1:fr=fr')(h2:σ=σ'):iq E all rs L fr σ Q o=iq E all rs L fr' σ' Q o':=by rw[h0,h1,h2]
@[congr] theorem PY{dst:Option Tmp}{fr fr':Fr}{v v':AV}{σ σ':List aa}(h1:fr=fr')(h2:v=v')(h3:σ=σ'):br E all rs L dst fr Q v σ=br E all rs L dst fr' Q v' σ':=by rw[h1,h2,h3]
@[congr] theorem T6{i:Nat}:eA all i=eA all i:=rfl
@[congr] theorem PW{fr':Fr}{σ':List aa}(h1:fr=fr')(h2:σ=σ'):recheck E all fr σ rs=recheck E all fr' σ' rs:=by rw[h1,h2]
@[congr] theorem UA{fr':Fr}{σ':List aa}{o o':Option Oper}(h0:o=o')(h1:fr=fr')(h2:σ=σ'):mE E all fr σ o=mE E all fr' σ' o':=by rw[h0,h1,h2]
theorem Hz{o:Oper}{l:List Oper}:eA (o::l) 0=some o:=rfl
theorem Gt{o:Oper}{l:List Oper}{i:Nat}:eA (o::l) (i+1)=eA l i:=rfl
theorem Aw:recheck E all fr σ []=True:=rfl
theorem zP{r:Nat}:recheck E all fr σ (r::rs)=(mE E all fr σ (eA all r)∧recheck E all fr σ rs):=rfl
theorem DC{d:Tmp}{op:Op}{type:TypeId}{pos:String}{after:Array Edge}:mE E all fr σ (some ⟨some d,op,type,pos,after,none⟩)=dD (fun v _=>fr.get d=some v) (hop E.ty fr σ op):=by
 simp only[mE,bK]
 cases hop E.ty fr σ op with
 | none=>rfl
 | some q=>rfl
theorem Ct{dst:Option Tmp}{op:Op}{type:TypeId}{pos:String}{after:Array Edge}:iq E all rs L fr σ Q (some ⟨dst,op,type,pos,after,none⟩)=aP E fr σ type op (br E all rs L dst fr Q):=by
 simp[iq,bK]
theorem Dg{dst:Option Tmp}{op:Op}{type:TypeId}{pos:String}{after:Array Edge}:lH E all L fr σ Q (some ⟨dst,op,type,pos,after,none⟩)=nI E fr σ op (br E all [] L dst fr Q):=by
 simp[lH,bK]
theorem FN{f:Operand}{args:Array Operand}{ats:Array TypeId}{X:AV→List aa→Prop}:nI E fr σ (.call ⟨.value f,args,ats⟩) X=EB X σ (xr E (aH fr f) (bI fr args.toList)):=rfl
def isSelf:List Nat→Nat→Bool
 | [j],i=>j==i
 | _,_=>false
theorem Cr{i:Nat}:isSelf [] i=false:=rfl
theorem E2{i j:Nat}:isSelf [j] i=(j==i):=rfl
theorem CO{i a b:Nat}{l:List Nat}:isSelf (a::b::l) i=false:=rfl
theorem He{i:Nat}:∀{l:List Nat},(l==[i])=isSelf l i
 | []=>rfl
 | [j]=>by simp[isSelf]
 | a::b::l=>by simp[isSelf]
theorem I1{i:Nat}{rs:List Nat}{L:List (Nat×List Nat)}:evD E all ((i,rs)::L) fr σ Q=nX E all rs L fr σ Q (eA all i) (isSelf rs i):=by rw[oe,He]
theorem EJ{dst:Option Tmp}{op:Op}{type:TypeId}{pos:String}{after:Array Edge}{j:Nat}{want:Bool}:iq E all rs L fr σ Q (some ⟨dst,op,type,pos,after,some (j,want)⟩) =
  match dC all j with
  | none=>False
  | some d=>match fr.get d with
   | some (.bool b)=>(b=want→aP E fr σ type op (br E all rs L dst fr Q))∧(b=!want→br E all rs L dst fr Q (.tup []) σ)
   | some (.tup [])=>br E all rs L dst fr Q (.tup []) σ
   | _=>False:=by
 simp only[iq,bK,lK]
 cases dC all j with
 | none=>rfl
 | some d=>
  simp only
  cases h:fr.get d with
  | none=>rfl
  | some v=>
   cases v with
   | bool b=>cases b<;> cases want<;> simp
   | tup vs=>cases vs<;> simp
   | _=>rfl
theorem zr{v:AV}:br E all rs L none fr Q v σ=(recheck E all fr σ rs∧evD E all L fr σ Q):=rfl
theorem Ac{d:Tmp}{v:AV}:br E all rs L (some d) fr Q v σ=(d<E.N∧recheck E all (fr.put d v) σ rs∧evD E all L (fr.put d v) σ Q):=rfl
end draws
def xw(Q:AV→List aa→Prop)(σ:List aa):Option (List AV)→Prop
 | some vs=>Q (oneOf vs) σ
 | none=>False
def dg(E:Env)(rs:List ResultVar)(Q:AV→List aa→Prop):au:=fun j fr σ=>(j=none∨j=some .ret)∧xw Q σ (ig E fr σ rs)
section rets
variable {rs:List ResultVar}{Q:AV→List aa→Prop}{fr:Fr}{σ:List aa}
theorem AT:dg E rs Q (some .ret) fr σ=xw Q σ (ig E fr σ rs):=by simp[dg]
theorem Ah:dg E rs Q none fr σ=xw Q σ (ig E fr σ rs):=by simp[dg]
@[congr] theorem PX{j j':Option Code}{fr fr':Fr}{σ σ':List aa}(h0:j=j')(h1:fr=fr')(h2:σ=σ'):dg E rs Q j fr σ=dg E rs Q j' fr' σ':=by rw[h0,h1,h2]
theorem E1{vs:List AV}:xw Q σ (some vs)=Q (oneOf vs) σ:=rfl
theorem G2{v:AV}:oneOf [v]=v:=rfl
theorem Iz:oneOf []= .tup []:=rfl
theorem EM{u v:AV}{vs:List AV}:oneOf (u::v::vs)= .tup (u::v::vs):=rfl
end rets
theorem ao.uL(hE:cm E){f:FuncId}{fn:Func}{c:Code}{args:List AV}{σ:List aa}{Q:AV→List aa→Prop}(kp:Nat→Bool)(hf:E.P.funcs[f]? = some fn)(hb:fn.body=some c)(hN:fn.ntmps=E.N)(hA:args.length≤E.N)
  (hC:aW E.P f) (hO:dG E [.code c]=true)
  (h:ev E none 100000 [.code c] ⟨kp,[],number 0 args⟩ σ (dg E fn.results.toList Q)):ao E.S f args σ Q:=by
 refine ao.of_run hE kp hf hb hN hA hC ((aR hE hO h).mono fun j fr σ' ⟨h1,h2⟩=>⟨h1,?_⟩)
 cases hr:ig E fr σ' fn.results.toList with
 | none=>rw[hr] at h2;exact h2.elim
 | some vs=>rw[hr] at h2;exact⟨vs,rfl,h2⟩
def aw:List (Nat×AV)→List (Nat×AV)→Prop
 | [],_=>True
 | (d,v)::l,sl=>ae sl d=some v∧aw l sl
theorem wG{sl:List (Nat×AV)}:∀{l:List (Nat×AV)},aw l sl→∀t v,ae l t=some v→ae sl t=some v
 | [],_,t,v,h=>by simp[ae] at h
 | (d,u)::l,hs,t,v,h=>by
  simp only[ae] at h
  by_cases e:d=t
  ·subst e;rw[if_pos rfl] at h;simp at h;subst h;exact hs.1
  ·rw[if_neg e] at h;exact wG hs.2 t v h
theorem aj.sub{kp:Nat→Bool}{tm sl sl':List (Nat×AV)}{todo:List Item}{σ:List aa}{Q:au}(h:aj E ro todo ⟨kp,[],sl'⟩ σ Q)(hs:aw sl' sl):aj E ro todo ⟨kp,tm,sl⟩ σ Q:=
 fun M hM K w V a b cs hb hR hO hF=>h M hM K w V a b cs hb hR hO (hF.sub fun t v hv=>by
  have hv':(if kp t=true then ae sl' t else ae [] t)=some v:=hv
  show(if kp t=true then ae sl t else ae tm t)=some v
  by_cases hk:kp t=true
  ·rw[if_pos hk] at hv'⊢;exact wG hs t v hv'
  ·rw[if_neg hk] at hv';cases hv')
def ints(t:Tok)(xs:List Int):AV:= .list t 1 (xs.map (AV.int .i64))
theorem qv{α:Type}{f:α→AV}{l:List α}{i:Nat}(h:i<l.length):idx (l.map f) (i:Int)=some (f l[i]):=by
 unfold idx
 rw[if_pos (by omega)]
 simp[h]
end Go.Mu
namespace Go.Mu
open Go Go.Conc
inductive Lt(n:Nat):AV→Prop
 | bool (b:Bool):Lt n (.bool b)
 | int (k:IntKind) (i:Int):Lt n (.int k i)
 | str (s:ByteArray):Lt n (.str s)
 | ptr (r off:Nat) (h:r<n):Lt n (.ptr r off)
 | nilptr:Lt n .nilptr
 | eptr (cs:List AV) (off:Nat) (h:∀j (hj:j<cs.length),Lt n (cs[j])):Lt n (.eptr cs off)
 | list (t:Tok) (sz:Nat) (xs:List AV) (ht:∀id,t= .own id→id<n)
   (h:∀i j (hi:i<xs.length) (hj:j<(xs[i]).cells.length),Lt n ((xs[i]).cells[j])):Lt n (.list t sz xs)
 | arr (r off len:Nat) (h:r<n):Lt n (.arr r off len)
 | vec (r len:Nat) (h:r<n):Lt n (.vec r len)
 | vptr (r m sz i off:Nat) (h:r<n):Lt n (.vptr r m sz i off)
 | map (r:Nat) (h:r<n):Lt n (.map r)
 | nilmap:Lt n .nilmap
 | fn (f:Fn) (first cap:List AV) (g1:∀i (h:i<first.length),Lt n (first[i])) (g2:∀i (h:i<cap.length),Lt n (cap[i])):Lt n (.fn f first cap)
 | yield (r:Nat) (h:r<n):Lt n (.yield r)
 | nilfn:Lt n .nilfn
 | iface (t:TypeId) (v:AV) (h:Lt n v):Lt n (.iface t v)
 | niliface:Lt n .niliface
 | agg (cs:List AV) (h:∀i (h:i<cs.length),Lt n (cs[i])):Lt n (.agg cs)
 | tup (cs:List AV) (h:∀i (h:i<cs.length),Lt n (cs[i])):Lt n (.tup cs)
 | chan (c:Option Nat):Lt n (.chan c)
theorem VR.lt{K:Kr}{n:Nat}{v:AV}{c:Value}(h:VR K n v c):Lt n v:=by
 induction h with
 | bool b=>exact .bool b
 | int k i=>exact .int k i
 | str s=>exact .str s
 | ptr r off h=>exact .ptr r off h
 | nilptr=>exact .nilptr
 | eptr cs off b o f hS h1 _ ih=>exact .eptr cs off ih
 | list t sz xs a cap f hl ht ha hs h1 _ ih=>exact .list t sz xs (fun id e=>by subst e;exact ht.1) ih
 | arr r off len a cap h hl ha=>exact .arr r off len h
 | vec r len a cap h hl ht ha=>exact .vec r len h
 | vptr r m sz i off b o cap h ht=>exact .vptr r m sz i off h
 | map r h=>exact .map r h
 | nilmap=>exact .nilmap
 | fn f first cap first' cap' h1 h2 _ _ i1 i2=>exact .fn f first cap (fun i h=>i1 i h (by omega)) (fun i h=>i2 i h (by omega))
 | yield r h=>exact .yield r h
 | nilfn=>exact .nilfn
 | iface t v c _ ih=>exact .iface t v ih
 | niliface=>exact .niliface
 | agg cs cs' hl h1 _ ih=>exact .agg cs fun i h=>ih i h (by omega)
 | tup cs cs' hl _ ih=>exact .tup cs fun i h=>ih i h (by omega)
 | chan c=>exact .chan c
theorem VR.down{K:Kr}{n n':Nat}{v:AV}{c:Value}(h:VR K n' v c)(h0:Lt n v):VR K n v c:=by
 induction h with
 | bool b=>exact .bool b
 | int k i=>exact .int k i
 | str s=>exact .str s
 | ptr r off h=>cases h0 with | ptr _ _ h0=>exact .ptr r off h0
 | nilptr=>exact .nilptr
 | eptr cs off b o f hS h1 _ ih=>cases h0 with | eptr _ _ h0=>exact .eptr cs off b o f hS h1 fun j hj=>ih j hj (h0 j hj)
 | list t sz xs a cap f hl ht ha hs h1 _ ih=>
  cases h0 with
  | list _ _ _ h2 h0=>
   exact .list t sz xs a cap f hl (by
    cases t with
    | no=>trivial
    | full=>exact ht
    | own id=>exact⟨h2 id rfl,ht.2⟩) ha hs h1 fun i j hi hj=>ih i j hi hj (h0 i j hi hj)
 | arr r off len a cap h hl ha=>cases h0 with | arr _ _ _ h0=>exact .arr r off len a cap h0 hl ha
 | vec r len a cap h hl ht ha=>cases h0 with | vec _ _ h0=>exact .vec r len a cap h0 hl ht ha
 | vptr r m sz i off b o cap h ht=>cases h0 with | vptr _ _ _ _ _ h0=>exact .vptr r m sz i off b o cap h0 ht
 | map r h=>cases h0 with | map _ h0=>exact .map r h0
 | nilmap=>exact .nilmap
 | fn f first cap first' cap' h1 h2 _ _ i1 i2=>cases h0 with | fn _ _ _ g1 g2=>exact .fn f first cap first' cap' h1 h2 (fun i h h'=>i1 i h h' (g1 i h)) (fun i h h'=>i2 i h h' (g2 i h))
 | yield r h=>cases h0 with | yield _ h0=>exact .yield r h0
 | nilfn=>exact .nilfn
 | iface t v c _ ih=>cases h0 with | iface _ _ h0=>exact .iface t v c (ih h0)
 | niliface=>exact .niliface
 | agg cs cs' hl h1 _ ih=>cases h0 with | agg _ h0=>exact .agg cs cs' hl h1 fun i h h'=>ih i h h' (h0 i h)
 | tup cs cs' hl _ ih=>cases h0 with | tup _ h0=>exact .tup cs cs' hl fun i h h'=>ih i h h' (h0 i h)
 | chan c=>exact .chan c
theorem eF.down{K0 K:Kr}{n n':Nat}{w0 w:World}{r:Nat}{o:aa}(h0:eF K0 n w0 r o)(h:eF K n' w r o):eF K n w r o:=by
 cases o with
 | cells cs=>
  obtain⟨cc,E,h1,h2,h3,h4⟩:=h
  obtain⟨cc0,E0,_,g2,_⟩:=h0
  exact⟨cc,E,h1,⟨h2.1,fun i a b=>(h2.2 i a b).down (g2.2 i a (by have:=g2.1;omega)).lt⟩,h3,h4⟩
 | tail m sz=>exact h
 | vec sz xs=>
  obtain⟨a,cap,h1,h2,h3,h4,h5⟩:=h
  obtain⟨a0,cap0,g1,g2,_,_,g5⟩:=h0
  have ltv:∀i (h:i<(xs.flatMap AV.cells).length),Lt n (xs.flatMap AV.cells)[i]:=fun i hi=>by
   have hx:0<xs.length:=by
    rcases Nat.eq_zero_or_pos xs.length with e | e
    ·rw[List.length_eq_zero_iff.1 e] at hi;simp at hi
    ·exact e
   obtain⟨_,_,_,_,_,_,_,k4,_⟩:=g5 (by omega)
   exact(k4.2 i hi (by rw[← k4.1];exact hi)).lt
  refine⟨a,cap,h1,h2,h3,h4,fun hc=>?_⟩
  obtain⟨b,o,cc,E,k1,k2,k3,k4,k5,k6⟩:=h5 hc
  exact⟨b,o,cc,E,k1,k2,k3,⟨k4.1,fun i a b=>(k4.2 i a b).down (ltv i a)⟩,k5,k6⟩
 | map es=>
  obtain⟨es',clock,h1,h2,h3,h4⟩:=h
  obtain⟨es0,clock0,_,g2,_,g4⟩:=h0
  refine⟨es',clock,h1,h2,h3,fun i a b=>?_⟩
  obtain⟨k1,k2,k3⟩:=h4 i a b
  obtain⟨l1,l2,_⟩:=g4 i a (by omega)
  exact⟨k1.down l1.lt,k2.down l2.lt,k3⟩
 | iter m c s=>
  obtain⟨m',h1,h2⟩:=h
  obtain⟨m0,_,g2⟩:=h0
  refine⟨m',h1,?_⟩
  cases m with
  | none=>exact h2
  | some q=>exact⟨g2.1,h2.2⟩
 | siter s p=>exact h
 | loop st pend fn params assign body N fr=>
  obtain⟨l,h1,h2,h3,h4,h5,h6,h7,h8⟩:=h
  obtain⟨l0,_,_,_,_,_,_,_,g8⟩:=h0
  refine⟨l,h1,h2,h3,h4,h5,h6,h7,h8.1,fun t v hv=>?_⟩
  obtain⟨c,k1,k2⟩:=h8.2 t v hv
  obtain⟨c0,_,l2⟩:=g8.2 t v hv
  exact⟨c,k1,k2.down l2.lt⟩
 | dead=>trivial
theorem R.drop{K0 K:Kr}{σ junk:List aa}{w0 w:World}(h0:R K0 σ w0)(h:R K (σ++junk) w){Sh V0 V:Nat→Prop}(hS:aI V0 K0 σ w0 V K (σ++junk) w)(hO:aU Sh V K (σ++junk) w):R K σ w∧aI V0 K0 σ w0 V K σ w∧aU Sh V K σ w:=by
 have hlt:∀{r o},σ[r]? = some o→r<σ.length:=fun h=>(List.getElem?_eq_some_iff.1 h).1
 have ai:∀r o,σ[r]? = some o→(σ++junk)[r]? = some o:=fun r o hr=>by rw[List.getElem?_append_left (hlt hr)];exact hr
 refine⟨⟨h.stab,fun r o hr=>(h0.obj r o hr).down (h.obj r o (ai r o hr)),fun r r' o o' b h1 h2=>h.inj r r' o o' b (ai r o h1) (ai r' o' h2),fun g cs hg=>⟨(h.lay g cs hg).1,fun r o hr=>(h.lay g cs hg).2 r o (ai r o hr)⟩⟩,?_⟩
 refine⟨⟨hS.ext,Nat.le_refl _,hS.size,fun b hb hv hf=>by
  obtain⟨m1,m2,m3⟩:=hS.keep b hb hv hf
  exact⟨m1,fun r o hr=>m2 r o (ai r o hr),m3⟩,hS.sub,hS.new,hS.os,hS.tape,hS.output⟩,?_⟩
 exact⟨fun b hb=>hO.obj b fun hf=>hb fun r o hr=>hf r o (ai r o hr),hO.stab,hO.lay,hO.sh⟩
def dI(v v':AV):Prop:=∀K n c,VR K n v c→VR K n v' c
theorem dI.refl(v:AV):dI v v:=fun _ _ _ h=>h
theorem dI.agg{cs cs':List AV}(hl:cs.length=cs'.length)(h:∀i (h:i<cs.length) (h':i<cs'.length),dI (cs[i]) (cs'[i])):dI (.agg cs) (.agg cs'):=fun K n c hv=>by
 cases hv with
 | agg _ cc hl' h1 h2=>exact .agg cs' cc (by omega) h1 fun i a b=>h i (by omega) a K n _ (h2 i (by omega) b)
theorem dI.tup{cs cs':List AV}(hl:cs.length=cs'.length)(h:∀i (h:i<cs.length) (h':i<cs'.length),dI (cs[i]) (cs'[i])):dI (.tup cs) (.tup cs'):=fun K n c hv=>by
 cases hv with
 | tup _ cc hl' h2=>exact .tup cs' cc (by omega) fun i a b=>h i (by omega) a K n _ (h2 i (by omega) b)
theorem ao.clean{P:Program}{S:MC P}{f:FuncId}{args:List AV}{σ:List aa}{Q:AV→List aa→Prop}(h:ao S f args σ fun v σ'=>∃v' junk,σ'=σ++junk∧dI v v'∧Lt σ.length v'∧Q v' σ):ao S f args σ Q:=by
 refine⟨h.1,fun M hM K w V cargs kd cs hR hO hV=>M.bind (h.2 M hM K w V cargs kd cs hR hO hV) ?_⟩
 rintro g' w' V' ⟨fr,v,σ',K',h1,h2,h3,h4,⟨v',junk,rfl,hw,hlt,hq⟩,hR',hO',hS⟩
 obtain⟨r1,r2,r3⟩:=hR.drop hR' hS hO'
 refine M.ret ⟨fr,v',σ,K',h1,h2,h3,⟨h4.mode,h4.defers,?_⟩,hq,r1,r3,r2⟩
 obtain⟨fn,k1,k2⟩:=h4.fn
 refine⟨fn,k1,fun w₁ hr=>?_⟩
 obtain⟨c,k3,k4,k5⟩:=k2 w₁ hr
 exact⟨c,k3,(hw _ _ _ k4).down hlt,k5⟩
theorem aj.iK{E:Env}{ro:Option Nat}{todo:List Item}{fr fr':Fr}{σ σ':List aa}{Q:au}(h:aj E ro todo fr' σ' Q)
  (hm:∀(K:Kr) (w:World) (tmps:Array Value),R K σ w→FR K σ.length E.N fr tmps→∃K',R K' σ' w∧FR K' σ'.length E.N fr' tmps∧Step K σ w K' σ' w):aj E ro todo fr σ Q:=by
 intro M hM K w V a b cs hb hR hO hF
 obtain⟨K',h1,h2,h3⟩:=hm K w a.tmps hR hF
 exact aj.go (h M hM) (hb.mono h3.ext h3.len) h1 (hO.iK hR h1 h3) h2 (.ng h3) rfl
theorem aj.ghost{E:Env}{ro:Option Nat}{todo:List Item}{kp:Nat→Bool}{tm sl:List (Nat×AV)}{σ:List aa}{Q:au}(d sz:Nat){sz0:Nat}(hd:kp d=true)(hl:ae sl d=some (.list .full sz0 []))
  (h:aj E ro todo ⟨kp,[],ins sl d (.list (.own σ.length) sz [])⟩ (σ++[.tail 0 sz]) Q):aj E ro todo ⟨kp,tm,sl⟩ σ Q:=by
 refine h.iK fun K w tmps hR hF=>?_
 obtain⟨c,hc,hv⟩:=hF.2 d (.list .full sz0 []) (by show(if kp d=true then ae sl d else ae tm d)=_;rw[if_pos hd];exact hl)
 cases hv with
 | list _ _ _ a cap f hl' ht ha hs h1 hh=>
  have hcap:cap=0:=ht
  subst hcap
  let K':Kr:={K with tl:=fun q=>if q=σ.length then fun m=>if m=0 then some (a,0) else none else K.tl q}
  have he:Ext σ.length K K':=⟨fun _ _=>rfl,fun r hr m x hx=>by
   show(if r=σ.length then _ else K.tl r) m=some x
   rw[if_neg (by omega)];exact hx,fun _ _ _ h=>h⟩
  have htl:K'.tl σ.length=fun m=>if m=0 then some (a,0) else none:=by
   show(if σ.length=σ.length then _ else _)=_
   rw[if_pos rfl]
  obtain⟨r1,r2⟩:=hR.iV (σ':=σ++[.tail 0 sz]) σ.length (.tail 0 sz) K' he (by simp) (by simp) (fun q o' hq hg=>by
   rw[List.getElem?_append] at hg
   split at hg
   ·exact hg
   ·cases hk:q-σ.length with
    | zero=>omega
    | succ j=>rw[hk] at hg;simp at hg) (fun q hq=>by show(if q=σ.length then _ else K.tl q)=_;rw[if_neg hq]) rfl (fun b hb=>by
   obtain⟨a',cap',g1,g2,_⟩:=hb
   rw[htl] at g1;simp at g1;omega) ⟨a,0,by rw[htl];rfl,Nat.le_refl _,fun k hk=>by rw[htl];simp;omega,fun h=>by omega⟩
  refine⟨K',r1,⟨hF.1,fun t v hv=>?_⟩,r2⟩
  have hv':(if kp t=true then ae (ins sl d (.list (.own σ.length) sz [])) t else ae [] t)=some v:=hv
  by_cases hk:kp t=true
  ·rw[if_pos hk,iZ] at hv'
   by_cases e:d=t
   ·subst e
    rw[if_pos rfl] at hv';simp at hv';subst hv'
    refine⟨_,hc,?_⟩
    exact .list (.own σ.length) sz [] a 0 f (Nat.le_refl _) ⟨by simp,by rw[htl];rfl⟩ (fun h=>absurd rfl h) (fun i hi=>by simp at hi) (fun i j hi=>by simp at hi) (fun i j hi=>by simp at hi)
   ·rw[if_neg e] at hv'
    obtain⟨c',k1,k2⟩:=hF.2 t v (by show(if kp t=true then ae sl t else ae tm t)=_;rw[if_pos hk];exact hv')
    exact⟨c',k1,k2.mono he (by simp)⟩
  ·rw[if_neg hk] at hv';cases hv'
theorem wD{σ:List aa}{r:Nat}{a b:aa}:ax (ax σ r a) r b=ax σ r b:=by unfold ax;simp
theorem mu{σ:List aa}{r:Nat}{x:aa}(h:ai σ r=some x):ax σ r x=σ:=by
 unfold ai at h;unfold ax
 obtain⟨h1,h2⟩:=List.getElem?_eq_some_iff.1 h
 rw[← h2];exact List.set_getElem_self h1
theorem cN{σ:List aa}{r:Nat}{x:aa}(h:ai σ r=some x)(o:aa):ai (ax σ r o) r=some o:=by
 unfold ai at h;unfold ai ax
 have:=(List.getElem?_eq_some_iff.1 h).1
 simp[this]
theorem bt{σ:List aa}{r q:Nat}{o:aa}(h:r≠q):ai (ax σ r o) q=ai σ q:=by
 unfold ai ax;rw[List.getElem?_set_ne h]
theorem aJ{σ:List aa}{r:Nat}{o:aa}:(ax σ r o).length=σ.length:=by unfold ax;simp
theorem a8{σ l:List aa}:ai (σ++l) σ.length=l[0]? :=by unfold ai;rw[List.getElem?_append_right (by omega)];simp
theorem aZ{σ l:List aa}{k:Nat}:ai (σ++l) (σ.length+k)=l[k]? :=by unfold ai;rw[List.getElem?_append_right (by omega)];simp
theorem lV{σ l:List aa}{o:aa}:ax (σ++l) σ.length o=σ++l.set 0 o:=by unfold ax;rw[List.set_append_right _ _ (by omega)];simp
theorem fI{σ l:List aa}{k:Nat}{o:aa}:ax (σ++l) (σ.length+k) o=σ++l.set k o:=by unfold ax;rw[List.set_append_right _ _ (by omega)];simp
end Go.Mu
