/- Part V of the abstract layer: statements whose order is drawn: the theorem. -/
import Derived.Test.YtgbdndlmdklefaaGreatFK08
set_option linter.unusedSimpArgs false
set_option linter.unusedVariables false
namespace Go.Mu
open Go Go.Conc
variable {ro:Option Nat}{n:Nat}
variable {C:Ctx}{X:Nat→Prop}{L1 L2:List (Nat×List Nat)}{eb:Nat→Nat}{V:Nat→Prop}{K:Kr}{σ:List AObj}{w:World}{fr:Fr}{a:Act}
theorem recheck_mem{E:Env}{all:List Oper}:∀{rs:List Nat} {r:Nat},recheck E all fr σ rs→r∈rs→reOK E all fr σ (nthO all r)
 | [],_,_,h=>by cases h
 | x::rs,r,h,hr=>by
  rcases List.mem_cons.1 hr with rfl | hr
  ·exact h.1
  ·exact recheck_mem h.2 hr
theorem Inv.execE(hD:DOK C){p:Nat×List Nat}(h:Inv C X L1 (p::L2) eb V K σ w fr a)(hx:¬X p.1){o:Oper}(ho:C.ops[p.1]? = some o)(hn:isNp p o=false)(hA:isA C.E.ty C.E.N o=false)(hr:∀e∈o.after,Region.binds .any e=true→X e.on)
  {KK:Act→World→(Nat→Prop)→Prop} (hk:∀V' K' σ' w' fr' a',Inv C (fun j=>X j∨j=p.1) (L1++[p]) L2 eb V' K' σ' w' fr' a'→KK a' w' V'):wpOpM C.M C.ops p.1 KK a w V:=by
 have hpL:p∈C.L:=by rw[h.split];simp
 have hs2:C.L=(L1++[p])++L2:=by rw[h.split];simp
 have hpos:∀q∈L2,∃A B,C.L=A++B∧p∈A∧q∈B:=fun q hq=>⟨L1++[p],L2,hs2,by simp,hq⟩
 have hne:∀q∈L2,p.1≠q.1:=fun q hq e=>by
  have hq':C.ops[q.1]? = some o:=by rw[← e];exact ho
  exact(hD.two hs2 (by simp) hq ho hq').ne e
 have hF:=h.looks hD hpL hx ho hr (fun q hq hX=>by
  rcases List.mem_cons.1 hq with rfl | hq
  ·exact absurd hX hx
  ·exact hpos q hq) (fun e=>by rw[hn] at e;cases e) (fun _ q hq e=>by
   subst e
   exact(hD.two h.split hq (List.mem_cons_self ..) ho ho).ne rfl)
 have hev:=evD_E hn (hD.selfs hpL ho).1 (nthO_ops ho) h.ev
 obtain⟨i,rs⟩:=p
 simp only[evDo] at hev
 have hfin:∀K' σ' w' V' v c,evNextD C.E C.ops.toList rs L2 o.dst fr C.Q v σ'→R K' σ' w'→OwnV C.M.Sh V' K' σ' w'→VR K' σ'.length v c→StepV V K σ w V' K' σ' w'→KK (a.put o.dst c) w' V':=by
  intro K' σ' w' V' v c g0 g1 g1' g2 g3
  obtain⟨fr',hfr,hrec,hev',hN⟩:∃fr',(fr'=match o.dst with | none=>fr | some d=>fr.put d v)∧recheck C.E C.ops.toList fr' σ' rs∧evD C.E C.ops.toList L2 fr' σ' C.Q∧∀d,o.dst=some d→d<C.E.N:=by
   unfold evNextD at g0
   cases hd:o.dst with
   | none=>rw[hd] at g0;exact⟨_,rfl,g0.1,g0.2,fun d h=>by cases h⟩
   | some d=>rw[hd] at g0;exact⟨_,rfl,g0.2.1,g0.2.2,fun d' h=>by simp at h;subst h;exact g0.1⟩
  have hget:∀t,o.dst≠some t→fr'.get t=fr.get t:=fun t ht=>by
   subst hfr
   cases hd:o.dst with
   | none=>rfl
   | some d=>
    simp only
    rw[Fr.get_put,if_neg (fun e=>ht (by rw[hd,e]))]
  refine hk V' K' σ' w' fr' _ ⟨hs2,hev',fun j oj hj hX e he hbd=>?_,fun q hq=>?_,fun q hq hX=>?_,fun q hq q' hq' h1 h2=>?_,?_,fun t u hu=>?_,g1,g1',h.step.trans g3,?_⟩
  ·rcases hX with hX | rfl
   ·exact .inl (h.closed j oj hj hX e he hbd)
   ·simp only at ho;rw[ho] at hj;simp at hj;subst hj;exact .inl (hr e he hbd)
  ·rcases List.mem_append.1 hq with hq | hq
   ·rcases h.p1 q hq with m | ⟨oq,m1,m2,b,u,l1,l2,l3,l4⟩
    ·exact .inl (.inl m)
    ·have h2:=hD.two h.split hq (q:=(i,rs)) (by simp) m1 ho
     rcases h2.eff with m | m | m | m | ⟨m3,m4⟩
     ·rw[hn] at m;cases m
     ·rw[hA] at m;cases m
     ·rw[m2] at m;cases m
     ·exact .inl (.inl (pred_in hD.masks h.closed q.1 i o ho hr m))
     ·have hlk:∀t∈oq.looksAt C.ops,fr.get t=fr'.get t:=fun t ht=>(hget t fun e=>m3 t e (List.mem_append_right _ ht)).symm
      have hdst:∀d,oq.dst=some d→fr'.get d=fr.get d:=fun d hd=>hget d fun e=>m3 d e (List.mem_append_left _ (by rw[hd];simp))
      refine .inr ⟨oq,m1,m2,b,?_⟩
      have hw':wantA C.ops.toList fr' oq.guard=some b:=by rw[← wantA_like hlk];exact l1
      cases hl:isL oq.op with
      | false=>
       refine⟨u,hw',fun hb=>?_,l3,fun d hd=>⟨(l4 d hd).1,by rw[hdst d hd];exact(l4 d hd).2⟩⟩
       rw[← nop_like _ (like_of hlk)]
       exact nop_pure (isNp_or m2) hl (l2 hb)
      | true=>
       have hre:=recheck_mem hrec (m4 hl)
       rw[nthO_ops m1] at hre
       simp only[reOK,hw'] at hre
       cases b with
       | false=>
        refine⟨u,hw',fun hb=>(by cases hb),l3,fun d hd=>⟨(l4 d hd).1,by rw[hdst d hd];exact(l4 d hd).2⟩⟩
       | true=>
        simp only at hre
        cases hh:hop C.E.ty fr' σ' oq.op with
        | none=>rw[hh] at hre;exact hre.elim
        | some q2=>
         obtain⟨v',σx⟩:=q2
         rw[hh] at hre
         have ha:nop C.E fr' σ' oq.type oq.op=some (v',σx):=by rw[nop_load hl];exact hh
         have e:=nop_N (isNp_or m2) ha
         refine⟨v',hw',fun _=>by rw[ha,e],fun hb=>(by cases hb),fun d hd=>⟨(l4 d hd).1,?_⟩⟩
         rw[hd] at hre
         exact hre
   ·simp at hq;subst hq;exact .inl (.inr rfl)
  ·have hX':X q.1:=hX.resolve_right fun e=>hne q hq e.symm
   exact h.early hD g3 ho (List.mem_cons_of_mem _ hq) hX' (hpos q hq)
  ·exact h.inj q (by simp[hq]) q' (by simp[hq']) (h1.resolve_right fun e=>hne q hq e.symm) (h2.resolve_right fun e=>hne q' hq' e.symm)
  ·rw[put_size];exact h.fsz
  ·by_cases e:o.dst=some t
   ·refine .inl ⟨c,?_,?_⟩
    ·rw[e];simp[Act.put,h.fsz,hN t e]
    ·subst hfr
     rw[e] at hu
     simp only[Fr.get_put,if_true,Option.some.injEq] at hu
     subst hu;exact g2
   ·rw[hget t e] at hu
    rcases h.fr t u hu with⟨c',m1,m2⟩ | ⟨q,m1,m2,oq,m3,m4⟩ | ⟨q,m1,m2,m3⟩
    ·exact .inl ⟨c',by rw[put_get e];exact m1,m2.mono g3.ext g3.len⟩
    ·refine .inr (.inl ⟨q,by simp[m1],fun hX=>?_,oq,m3,m4⟩)
     rcases hX with hX | hX
     ·exact m2 hX
     ·simp only at ho;rw[hX,ho] at m3;simp at m3;subst m3;exact e m4
    ·rcases List.mem_cons.1 m1 with rfl | m1
     ·exact absurd m2 hx
     ·exact .inr (.inr ⟨q,m1,.inl m2,m3⟩)
  ·rw[put_defers];exact h.defers
 split at hev
 ·exact hev.elim
 ·rename_i b hb
  have hb':wantA C.ops.toList (fr.only (o.looksAt C.ops)) o.guard=some b:=by rw[← wantA_like only_like];exact hb
  have hw:=wantA_sound hF hb'
  cases b with
  | false=>exact .unwanted ho hw fun w₁ hre=>hfin K σ w₁ V _ undef (hev.2 rfl) (h.rel.rely h.own hre) (h.own.rely hre) undef_VR (.of_rel hre)
  | true=>
   have hv:=hev.1 rfl
   rw[evOp_like _ (like_of (only_like (ops:=C.ops)))] at hv
   exact opM_sound hD.E hD.M ho hw hv h.rel h.own hF fun K' σ' w' V' v c g0 g1 g1' g2 g3=>hfin K' σ' w' V' v c g0 g1 g1' g2 g3
theorem Inv.done(hD:DOK C)(h:Inv C X L1 L2 eb V K σ w fr a)(hall:∀i,i<C.ops.size→X i):Done C.E C.M.Sh C.V0 C.K0 C.σ0 C.w0 C.ds C.Q a w V:=by
 have hL:∀p∈C.L,X p.1:=fun p hp=>by
  have h1:=hD.self p hp
  unfold selfOK at h1
  cases ho:C.ops[p.1]? with
  | none=>rw[ho] at h1;cases h1
  | some o=>exact hall _ (Array.getElem?_eq_some_iff.1 ho).1
 obtain⟨K',σ',fr',h1⟩:=Inv.advTo hD (M:=L2) (L2:=[]) (by simpa using h) (fun p hp=> .inl (hL p (by rw[h.split];simp[hp])))
 refine⟨K',σ',fr',h1.ev,h1.rel,h1.own,⟨h1.fsz,fun t v hv=>?_⟩,h1.step,h1.defers⟩
 rcases h1.fr t v hv with m | ⟨q,m1,m2,_⟩ | ⟨q,m1,_⟩
 ·exact m
 ·exact absurd (hL q (by rw[h1.split];simpa using m1)) m2
 ·cases m1
def left(size:Nat)(listed:Array Bool):Nat:=((List.range size).filter fun i=>listed.getD i true==false).length
theorem filter_lt{α:Type}{p q:α→Bool}(hpq:∀x,q x=true→p x=true):∀{l:List α} {y:α},y∈l→p y=true→q y=false→(l.filter q).length<(l.filter p).length
 | x::l,y,hy,h1,h2=>by
  have hle:∀l:List α,(l.filter q).length≤(l.filter p).length:=by
   intro l
   induction l with
   | nil=>simp
   | cons z l ih=>
    by_cases hz:q z=true
    ·rw[List.filter_cons_of_pos hz,List.filter_cons_of_pos (hpq z hz)];simp;exact ih
    ·rw[List.filter_cons_of_neg hz]
     by_cases hz':p z=true
     ·rw[List.filter_cons_of_pos hz'];simp;omega
     ·rw[List.filter_cons_of_neg hz'];exact ih
  rcases List.mem_cons.1 hy with rfl | hy
  ·rw[List.filter_cons_of_pos h1,List.filter_cons_of_neg (by rw[h2];simp)]
   have:=hle l;simp;omega
  ·have ih:=filter_lt hpq hy h1 h2
   by_cases hz:q x=true
   ·rw[List.filter_cons_of_pos hz,List.filter_cons_of_pos (hpq x hz)];simp;exact ih
   ·rw[List.filter_cons_of_neg hz]
    by_cases hz':p x=true
    ·rw[List.filter_cons_of_pos hz'];simp;omega
    ·rw[List.filter_cons_of_neg hz'];exact ih
def wpAnyM{P:Program}(M:RMode P)(ops:Array Oper)(Q:Act→World→(Nat→Prop)→Prop):Nat→Array Bool→Act→World→(Nat→Prop)→Prop
 | 0,listed,a,w,V=>Region.ready .any ops listed=[]∧Q a w V
 | fuel+1,listed,a,w,V=>(Region.ready .any ops listed=[]→Q a w V)∧∀i∈Region.ready .any ops listed,wpOpM M ops i (wpAnyM M ops Q fuel (listed.setIfInBounds i true)) a w V
theorem wpAnyM_sound{P:Program}{M:RMode P}{ops:Array Oper}{Q:Act→World→(Nat→Prop)→Prop}:∀(fuel t:Nat) (listed:Array Bool) (a:Act) (w:World) (V:Nat→Prop),wpAnyM M ops Q fuel listed a w V→
  wpOpsM M ops Q (Region.linearise.go .any ops fuel t listed []) a w V:=by
 intro fuel
 induction fuel with
 | zero=>intro t listed a w V h;simpa[Region.linearise.go,wpOpsM] using h.2
 | succ fuel ih=>
  intro t listed a w V h
  obtain⟨h₀,h₁⟩:=h
  simp only[Region.linearise.go]
  change wpOpsM M ops Q (match (Region.ready .any ops listed)[t%(Region.ready .any ops listed).length]? with
   | some i=>Region.linearise.go .any ops fuel (t/(Region.ready .any ops listed).length) (listed.setIfInBounds i true) [i]
   | none=>[].reverse) a w V
  cases hi:(Region.ready .any ops listed)[t%(Region.ready .any ops listed).length]? with
  | none=>
   have hnil:Region.ready .any ops listed=[]:=by
    cases hr:Region.ready .any ops listed with
    | nil=>rfl
    | cons x xs=>
     rw[hr] at hi
     have hlt:t%(x::xs).length<(x::xs).length:=Nat.mod_lt _ (by simp)
     simp at hi
     simp at hlt
     omega
   simpa[wpOpsM] using h₀ hnil
  | some i=>
   simp only[]
   rw[linearise_go_acc,List.reverse_singleton,List.singleton_append]
   show wpOpM M ops i _ a w V
   exact(h₁ i (List.mem_of_getElem? hi)).mono fun a w V=>ih _ _ a w V
theorem anyD(hD:DOK C):∀(fuel:Nat) (listed:Array Bool) (L1 L2:List (Nat×List Nat)) (eb:Nat→Nat) (V:Nat→Prop) (K:Kr) (σ:List AObj) (w:World) (fr:Fr) (a:Act),listed.size=C.ops.size→left C.ops.size listed≤fuel→
  Inv C (fun j=>listed.getD j false=true) L1 L2 eb V K σ w fr a→wpAnyM C.M C.ops (Done C.E C.M.Sh C.V0 C.K0 C.σ0 C.w0 C.ds C.Q) fuel listed a w V:=by
 have hget:∀(listed:Array Bool) (j:Nat),listed.size=C.ops.size→j<C.ops.size→listed.getD j true=listed.getD j false:=fun listed j hs hj=>by
  have:j<listed.size:=by omega
  simp[Array.getD,this]
 have hrdy:∀(listed:Array Bool),listed.size=C.ops.size→Region.ready .any C.ops listed=[]→∀i,i<C.ops.size→listed.getD i false=true:=by
  intro listed hs hr i
  induction i using Nat.strongRecOn with
  | _ i ih=>
   intro hi
   cases hc:listed.getD i false with
   | true=>rfl
   | false=>
    exfalso
    have ho:C.ops[i]? = some C.ops[i]:=Array.getElem?_eq_getElem hi
    have h1:=List.all_eq_true.1 hD.masks i (List.mem_range.2 hi)
    simp only[ho,Bool.and_eq_true,beq_iff_eq,List.all_eq_true,Bool.or_eq_true,Bool.not_eq_true',decide_eq_true_eq] at h1
    have hmem:i∈Region.ready .any C.ops listed:=mem_ready.2 ⟨by rw[hget listed i hs hi];exact hc,_,ho,fun e he hb=>by
     have hlt:e.on<i:=by
      rcases h1.2 e (by simpa using he) with h5 | h5
      ·rw[hb] at h5;cases h5
      ·exact h5
     exact ih e.on hlt (by omega)⟩
    rw[hr] at hmem;cases hmem
 have hsome:∀(listed:Array Bool),left C.ops.size listed=0→listed.size=C.ops.size→∀i,i<C.ops.size→listed.getD i false=true:=by
  intro listed h0 hs i hi
  cases hc:listed.getD i false with
  | true=>rfl
  | false=>
   unfold left at h0
   have hnil:=List.length_eq_zero_iff.1 h0
   have:i∈((List.range C.ops.size).filter fun i=>listed.getD i true==false):=List.mem_filter.2 ⟨List.mem_range.2 hi,by rw[hget listed i hs hi,hc];rfl⟩
   rw[hnil] at this;cases this
 intro fuel
 induction fuel with
 | zero=>
  intro listed L1 L2 eb V K σ w fr a hs hl h
  have hall:=hsome listed (by omega) hs
  refine⟨?_,h.done hD hall⟩
  apply List.eq_nil_iff_forall_not_mem.2
  intro i hi
  obtain⟨h1,o,ho,_⟩:=mem_ready.1 hi
  have hlt:=(Array.getElem?_eq_some_iff.1 ho).1
  rw[hget listed i hs hlt,hall i hlt] at h1;cases h1
 | succ fuel ih=>
  intro listed L1 L2 eb V K σ w fr a hs hl h
  refine⟨fun hr=>h.done hD (hrdy listed hs hr),fun i hi=>?_⟩
  obtain⟨h1,o,ho,hdeps⟩:=mem_ready.1 hi
  have hlt:=(Array.getElem?_eq_some_iff.1 ho).1
  rw[hget listed i hs hlt] at h1
  have hx:¬listed.getD i false=true:=by rw[h1];simp
  -- the set grows
  have hset:(fun j=>(listed.setIfInBounds i true).getD j false=true)=fun j=>listed.getD j false=true∨j=i:=by
   funext j
   apply propext
   by_cases e:i=j
   ·subst e;simp[hs,hlt]
   ·rw[getD_set_ne false e]
    constructor
    ·intro h;exact .inl h
    ·rintro(h | h)
     ·exact h
     ·exact absurd h.symm e
  have hleft:left C.ops.size (listed.setIfInBounds i true)≤fuel:=by
   have:left C.ops.size (listed.setIfInBounds i true)<left C.ops.size listed:=by
    refine filter_lt (fun x hx=>?_) (List.mem_range.2 hlt) (by rw[hget listed i hs hlt,h1];rfl) ?_
    ·by_cases e:i=x
     ·subst e;simp[hs,hlt] at hx
     ·rw[getD_set_ne true e] at hx;exact hx
    ·simp[hs,hlt]
   omega
  have hcont:∀L1 L2 eb V' K' σ' w' fr' a',Inv C (fun j=>listed.getD j false=true∨j=i) L1 L2 eb V' K' σ' w' fr' a'→wpAnyM C.M C.ops (Done C.E C.M.Sh C.V0 C.K0 C.σ0 C.w0 C.ds C.Q) fuel (listed.setIfInBounds i true) a' w' V':=by
   intro L1 L2 eb V' K' σ' w' fr' a' h'
   exact ih _ L1 L2 eb V' K' σ' w' fr' a' (by simpa using hs) hleft (by rw[hset];exact h')
  obtain⟨p,hpL,rfl⟩:=hD.all i hlt
  have hpL':=hpL
  rw[h.split] at hpL'
  rcases List.mem_append.1 hpL' with hp | hp
  ·exact h.execN hD hp hx ho hdeps fun K' w' V' a' h'=>hcont _ _ _ _ _ _ _ _ _ h'
  ·cases hA:isA C.E.ty C.E.N o with
   | true=>exact h.execA hD hp hx ho hA hdeps fun eb' w' V' a' h'=>hcont _ _ _ _ _ _ _ _ _ h'
   | false=>
    obtain⟨M,M',rfl⟩:=List.append_of_mem hp
    obtain⟨K1,σ1,fr1,h2⟩:=Inv.advTo hD (M:=M) (L2:=p::M') h (fun q hq=>by
     have hqL:q∈C.L:=by rw[h.split];simp[hq]
     have hq1:=hD.self q hqL
     unfold selfOK at hq1
     cases hoq:C.ops[q.1]? with
     | none=>rw[hoq] at hq1;cases hq1
     | some oq=>
      have hs3:C.L=(L1++M)++(p::M'):=by rw[h.split];simp
      rcases(hD.two hs3 (p:=q) (q:=p) (by simp[hq]) (by simp) hoq ho).dep with m | m | m
      ·rw[hA] at m;cases m
      ·exact .inr ⟨oq,rfl,m⟩
      ·exact .inl (pred_in hD.masks h.closed q.1 p.1 o ho hdeps m))
    cases hn:isNp p o with
    | true=>
     obtain⟨fr2,h3⟩:=h2.advN hD hx ho hn
     exact h3.execN hD (by simp) hx ho hdeps fun K' w' V' a' h'=>hcont _ _ _ _ _ _ _ _ _ h'
    | false=>exact h2.execE hD hx ho hn hA hdeps fun V' K' σ' w' fr' a' h'=>hcont _ _ _ _ _ _ _ _ _ h'
theorem ARun.drawn{E:Env}(hE:EnvOK E){id:Nat}{ops:Array Oper}(c:List Nat×List (Nat×List Nat))(hL:drawOK E.ty E.N ops c=true){k:List Item}{fr:Fr}{σ:List AObj}{Q:Option Code→Fr→List AObj→Prop}
  (h:evD E ops.toList c.2 fr σ fun fr σ=>ARun E ro k fr σ Q):ARun E ro (.code (.region id ops true)::k) fr σ Q:=by
 intro M hM K w V a b cs hb hR hO hF
 refine M.step rfl fun w₁ hr=>⟨_,_,_,show stepG E.P M.main (G (b.atR a (.code (.region id ops true)::k)) cs) w₁= .go (G (b.atR a (.inRegion ops (Region.schedule (E.P.follows .mixedOrders) ops (w₁.tape w₁.drawn (.order b.fn id)))::k)) cs) {w₁ with drawn:=w₁.drawn+1} by
  simp[G,stepG,stepG.exec,Frame.atR,choose,Sem.run,Question.forced,Question.cut],.drew _ _ _,?_⟩
 let w1:World:={w₁ with drawn:=w₁.drawn+1}
 have hr1:Rel V w w1:=⟨hr.size,hr.keep,hr.os,hr.tape,hr.output⟩
 have hn:Newer V w₁.heap.size w1.heap.size=V:=newer_same
 rw[hn]
 have hR1:R K σ w1:=hR.rely hO hr1
 have hO1:OwnV M.Sh V K σ w1:=hO.rely hr1
 let C:Ctx:=⟨E,M,V,ops,c.1,c.2,K,σ,w1,a.defers,fun fr σ=>ARun E ro k fr σ Q⟩
 have hD:DOK C:=DOK.of (C:=C) hE hM hL
 have hI:Inv C (fun j=>(Array.replicate ops.size false).getD j false=true) [] c.2 (fun _=>0) V K σ w1 fr a:=by
  have hno:∀j,¬((Array.replicate ops.size false).getD j false=true):=fun j h=>by
   by_cases hj:j<ops.size<;> simp[hj,Array.getElem?_replicate] at h
  refine⟨rfl,h,fun j o _ hX=>absurd hX (hno j),fun p hp=>(by cases hp),fun p _ hX=>absurd hX (hno _),fun p _ q _ hX=>absurd hX (hno _),hF.1,fun t v hv=> .inl (hF.2 t v hv),hR1,hO1,.refl _ _ _ _,rfl⟩
 have hw:=anyD hD ops.size (Array.replicate ops.size false) [] c.2 (fun _=>0) V K σ w1 fr a (by simp;rfl) (by
  unfold left
  exact Nat.le_trans (List.length_filter_le _ _) (by simp;exact Nat.le_refl _)) hI
 have hw2:=wpAnyM_sound _ (w₁.tape w₁.drawn (.order b.fn id)) _ _ _ _ hw
 have hsch:Region.schedule (E.P.follows .mixedOrders) ops (w₁.tape w₁.drawn (.order b.fn id))=Region.linearise.go .any ops ops.size (w₁.tape w₁.drawn (.order b.fn id)) (Array.replicate ops.size false) []:=by
  simp only[Region.schedule,hE.mixed,Bool.true_or,if_true]
  rfl
 rw[hsch]
 refine wpOpsM.run ?_ _ _ _ _ hw2
 rintro a' w' V' ⟨K',σ',fr',hq,h2,h3,h4,h5,h6⟩
 refine M.step rfl fun w₂ hr2=>⟨_,_,_,show stepG E.P M.main (G (b.atR a' (.inRegion ops []::k)) cs) w₂= .go (G (b.atR a' k) cs) w₂ by simp[G,stepG,stepG.exec,Frame.atR],.idle _ _ _,?_⟩
 rw[newer_same]
 exact ARun.go (hq M hM) (hb.mono h5.ext h5.len) (h2.rely h3 hr2) (h3.rely hr2) h4 (((StepV.of_rel hr1).trans h5).trans (.of_rel hr2)) h6
end Go.Mu
namespace Go.Mu
open Go Go.Conc
variable {E:Env}{ro:Option Nat}{K:Kr}
def ev(E:Env)(ro:Option Nat):Nat→List Item→Fr→List AObj→Post→Prop
 | 0,todo,fr,σ,Q=>ARun E ro todo fr σ Q
 | _+1,[],fr,σ,Q=>Q none fr σ
 | n+1,.inBlock _::k,fr,σ,Q=>ev E ro n k fr σ Q
 | n+1,.inScope _::k,fr,σ,Q=>ev E ro n k fr σ Q
 | n+1,.code c::k,fr,σ,Q=>
  match c with
  | .skip=>ev E ro n k fr σ Q
  | .label _=>ev E ro n k fr σ Q
  | .seq x y=>ev E ro n (.code x:: .code y::k) fr σ Q
  | .block id x=>ev E ro n (.code x:: .inBlock id::k) fr σ Q
  | .scope x=>ev E ro n (.code x:: .inScope x::k) fr σ Q
  | .cond c x y=>match aeval fr c with
   | some (.bool t)=>(t=true→ev E ro n (.code x::k) fr σ Q)∧(t=false→ev E ro n (.code y::k) fr σ Q)
   | _=>False
  | .exit id=>match exitTo id k with
   | some k'=>ev E ro n k' fr σ Q
   | none=>Q (some (.exit id)) fr σ
  | .goto l=>match gotoIn l k with
   | some k'=>ev E ro n k' fr σ Q
   | none=>False
  | .ret=>Q (some .ret) fr σ
  | .region id ops draw=>if draw then evD E ops.toList (E.ord id).2 fr.anew σ (ev E ro n k · · Q) else evOps E ops.toList ops.toList fr.anew σ (ev E ro n k · · Q)
  | c=>ARun E ro (.code c::k) fr.anew σ Q
 | _+1,todo,fr,σ,Q=>ARun E ro todo fr.anew σ Q
def codeOK(E:Env):Code→Bool
 | .region id ops draw=> !draw||drawOK E.ty E.N ops (E.ord id)
 | .seq a b=>codeOK E a&&codeOK E b
 | .cond _ a b=>codeOK E a&&codeOK E b
 | .block _ a=>codeOK E a
 | .loop a=>codeOK E a
 | .scope a=>codeOK E a
 | .rangeFunc _ _ a b=>codeOK E a&&codeOK E b
 | _=>true
def itemOK(E:Env):Item→Bool
 | .code c=>codeOK E c
 | .inLoop c=>codeOK E c
 | .inScope c=>codeOK E c
 | _=>true
def todoOK(E:Env)(todo:List Item):Bool:=todo.all (itemOK E)
theorem todoOK_cons{i:Item}{k:List Item}:todoOK E (i::k)=(itemOK E i&&todoOK E k):=rfl
theorem exitTo_OK{id:Nat}:∀{k k':List Item},exitTo id k=some k'→todoOK E k=true→todoOK E k'=true
 | [],_,h,_=>by simp[exitTo] at h
 | i::k,k',h,hk=>by
  rw[todoOK_cons,Bool.and_eq_true] at hk
  cases i with
  | inBlock id'=>
   simp only[exitTo] at h
   split at h
   ·simp at h;subst h;exact hk.2
   ·exact exitTo_OK h hk.2
  | _=>simp only[exitTo] at h;exact exitTo_OK (k:=k) h hk.2
theorem findLabel_OK{l:Nat}:∀{c c':Code},findLabel c l=some c'→codeOK E c=true→codeOK E c'=true:=by
 intro c
 induction c with
 | seq a b iha ihb=>
  intro c' h hc
  simp only[codeOK,Bool.and_eq_true] at hc
  simp only[findLabel] at h
  split at h
  ·rename_i r hr
   simp at h;subst h
   simp only[codeOK,Bool.and_eq_true]
   exact⟨iha hr hc.1,hc.2⟩
  ·exact ihb h hc.2
 | label l'=>
  intro c' h hc
  simp only[findLabel] at h
  split at h
  ·simp at h;subst h;rfl
  ·cases h
 | _=>intro c' h hc;simp[findLabel] at h
theorem gotoIn_OK{l:Nat}:∀{k k':List Item},gotoIn l k=some k'→todoOK E k=true→todoOK E k'=true
 | [],_,h,_=>by simp[gotoIn] at h
 | i::k,k',h,hk=>by
  have hk0:=hk
  rw[todoOK_cons,Bool.and_eq_true] at hk
  cases i with
  | inScope c=>
   simp only[gotoIn] at h
   split at h
   ·rename_i r hr
    simp at h;subst h
    rw[todoOK_cons,Bool.and_eq_true]
    exact⟨findLabel_OK hr hk.1,hk0⟩
   ·exact gotoIn_OK h hk.2
  | _=>simp only[gotoIn] at h;exact gotoIn_OK (k:=k) h hk.2
theorem evD_mono{all:List Oper}{Q Q':Fr→List AObj→Prop}(hq:∀fr σ,Q fr σ→Q' fr σ):∀{L:List (Nat×List Nat)} {fr:Fr} {σ:List AObj},evD E all L fr σ Q→evD E all L fr σ Q'
 | [],fr,σ,h=>hq _ _ h
 | (i,rs)::L,fr,σ,h=>by
  rw[evD_cons] at h⊢
  have hn:∀rs dst v σ',evNextD E all rs L dst fr Q v σ'→evNextD E all rs L dst fr Q' v σ':=fun rs dst v σ' h=>by
   unfold evNextD at h⊢
   split at h
   ·exact⟨h.1,evD_mono hq h.2⟩
   ·exact⟨h.1,h.2.1,evD_mono hq h.2.2⟩
  cases hb:rs==[i] with
  | true=>
   rw[hb] at h
   cases ho:nthO all i with
   | none=>rw[ho] at h;exact h
   | some o=>
    rw[ho] at h
    simp only[evDs,evDp] at h⊢
    cases hw:wantA all fr o.guard with
    | none=>rw[hw] at h;exact h.elim
    | some b=>
     rw[hw] at h
     refine⟨fun hb=>?_,fun hb=>hn _ _ _ _ (h.2 hb)⟩
     have h:=h.1 hb
     unfold evPc givP at h⊢
     cases hv:valP E fr o.op with
     | none=>rw[hv] at h;exact h
     | some v=>rw[hv] at h;exact hn _ _ _ _ h
  | false=>
   rw[hb] at h
   cases ho:nthO all i with
   | none=>rw[ho] at h;exact h
   | some o=>
    rw[ho] at h
    simp only[evDs,evDo] at h⊢
    cases hw:wantA all fr o.guard with
    | none=>rw[hw] at h;exact h.elim
    | some b=>
     rw[hw] at h
     exact⟨fun hb=>evOp_mono (hn _ _) (h.1 hb),fun hb=>hn _ _ _ _ (h.2 hb)⟩
theorem ev_sound(hE:EnvOK E){Q:Post}:∀{n:Nat} {todo:List Item} {fr:Fr} {σ:List AObj},todoOK E todo=true→ev E ro n todo fr σ Q→ARun E ro todo fr σ Q
 | 0,todo,fr,σ,_,h=>h
 | n+1,[],fr,σ,_,h=> .leave .nil h
 | n+1,i::k,fr,σ,ho,h=>by
  cases i with
  | inBlock _=>exact .inBlock (ev_sound hE (by rw[todoOK_cons,Bool.and_eq_true] at ho;exact ho.2) h)
  | inScope _=>exact .inScope (ev_sound hE (by rw[todoOK_cons,Bool.and_eq_true] at ho;exact ho.2) h)
  | code c=>
   rw[todoOK_cons,Bool.and_eq_true] at ho
   obtain⟨hc,hk⟩:=ho
   cases c with
   | skip=>exact .skip (ev_sound hE hk h)
   | label _=>exact .label (ev_sound hE hk h)
   | seq x y=>
    simp only[itemOK,codeOK,Bool.and_eq_true] at hc
    exact .seq (ev_sound hE (by simp only[todoOK_cons,itemOK,hc.1,hc.2,hk,Bool.and_self]) h)
   | block id x=>exact .block (ev_sound hE (by rw[todoOK_cons,todoOK_cons,Bool.and_eq_true,Bool.and_eq_true];exact⟨hc,rfl,hk⟩) h)
   | scope x=>exact .scope (ev_sound hE (by rw[todoOK_cons,todoOK_cons,Bool.and_eq_true,Bool.and_eq_true];exact⟨hc,hc,hk⟩) h)
   | cond c x y=>
    simp only[itemOK,codeOK,Bool.and_eq_true] at hc
    simp only[ev] at h
    split at h
    ·rename_i t hcc
     refine .cond hcc ?_
     cases t
     ·exact ev_sound hE (by rw[todoOK_cons,Bool.and_eq_true];exact⟨hc.2,hk⟩) (h.2 rfl)
     ·exact ev_sound hE (by rw[todoOK_cons,Bool.and_eq_true];exact⟨hc.1,hk⟩) (h.1 rfl)
    ·exact h.elim
   | exit id=>
    simp only[ev] at h
    split at h
    ·rename_i k' hk';exact .exit hk' (ev_sound hE (exitTo_OK hk' hk) h)
    ·rename_i hk';exact .leave (.exit id k hk') h
   | goto l=>
    simp only[ev] at h
    split at h
    ·rename_i k' hk';exact .goto hk' (ev_sound hE (gotoIn_OK hk' hk) h)
    ·exact h.elim
   | ret=>exact .leave (.ret k) h
   | region id ops draw=>
    simp only[ev] at h
    split at h
    ·rename_i hd
     simp only[itemOK,codeOK,hd,Bool.not_true,Bool.false_or] at hc
     subst hd
     exact .anew (.drawn hE _ hc (evD_mono (fun fr σ h=>ev_sound hE hk h) h))
    ·rename_i hd
     simp at hd;subst hd
     exact .anew (.region hE (evOps_mono (fun fr σ h=>ev_sound hE hk h) h))
   | loop x=>exact .anew h
   | rangeFunc f p x y=>exact .anew h
   | refuse w=>exact .anew h
  | _=>exact .anew h
def evK(E:Env)(ro:Option Nat)(n:Nat)(k:List Item)(Q:Post)(fr:Fr)(σ:List AObj):Prop:=ev E ro n k fr σ Q
section rules
variable {n:Nat}{k:List Item}{fr:Fr}{σ:List AObj}{Q:Post}
theorem evK_eq:evK E ro n k Q fr σ=ev E ro n k fr σ Q:=rfl
theorem ev_nil:ev E ro (n+1) [] fr σ Q=Q none fr σ:=rfl
theorem ev_inBlock{id:Nat}:ev E ro (n+1) (.inBlock id::k) fr σ Q=ev E ro n k fr σ Q:=rfl
theorem ev_inScope{c:Code}:ev E ro (n+1) (.inScope c::k) fr σ Q=ev E ro n k fr σ Q:=rfl
theorem ev_inLoop{c:Code}:ev E ro (n+1) (.inLoop c::k) fr σ Q=ARun E ro (.inLoop c::k) fr.anew σ Q:=rfl
theorem ev_skip:ev E ro (n+1) (.code .skip::k) fr σ Q=ev E ro n k fr σ Q:=rfl
theorem ev_label{l:Nat}:ev E ro (n+1) (.code (.label l)::k) fr σ Q=ev E ro n k fr σ Q:=rfl
theorem ev_seq{x y:Code}:ev E ro (n+1) (.code (.seq x y)::k) fr σ Q=ev E ro n (.code x:: .code y::k) fr σ Q:=rfl
theorem ev_block{id:Nat}{x:Code}:ev E ro (n+1) (.code (.block id x)::k) fr σ Q=ev E ro n (.code x:: .inBlock id::k) fr σ Q:=rfl
theorem ev_scope{x:Code}:ev E ro (n+1) (.code (.scope x)::k) fr σ Q=ev E ro n (.code x:: .inScope x::k) fr σ Q:=rfl
theorem ev_cond{c:Operand}{x y:Code}:ev E ro (n+1) (.code (.cond c x y)::k) fr σ Q=match aeval fr c with
   | some (.bool t)=>(t=true→ev E ro n (.code x::k) fr σ Q)∧(t=false→ev E ro n (.code y::k) fr σ Q)
   | _=>False:=rfl
theorem ev_exit{id:Nat}:ev E ro (n+1) (.code (.exit id)::k) fr σ Q=match exitTo id k with
   | some k'=>ev E ro n k' fr σ Q
   | none=>Q (some (.exit id)) fr σ:=rfl
theorem ev_goto{l:Nat}:ev E ro (n+1) (.code (.goto l)::k) fr σ Q=match gotoIn l k with
   | some k'=>ev E ro n k' fr σ Q
   | none=>False:=rfl
theorem ev_ret:ev E ro (n+1) (.code .ret::k) fr σ Q=Q (some .ret) fr σ:=rfl
theorem ev_region{id:Nat}{ops:List Oper}:ev E ro (n+1) (.code (.region id ops.toArray false)::k) fr σ Q=evOps E ops ops fr.anew σ (evK E ro n k Q):=rfl
theorem ev_loop{c:Code}:ev E ro (n+1) (.code (.loop c)::k) fr σ Q=ARun E ro (.code (.loop c)::k) fr.anew σ Q:=rfl
theorem exitTo_block{id id':Nat}:exitTo id (.inBlock id'::k)=if id'=id then some k else exitTo id k:=by
 simp[exitTo,beq_iff_eq]
theorem exitTo_code{id:Nat}{c:Code}:exitTo id (.code c::k)=exitTo id k:=rfl
theorem exitTo_loop{id:Nat}{c:Code}:exitTo id (.inLoop c::k)=exitTo id k:=rfl
theorem exitTo_scope{id:Nat}{c:Code}:exitTo id (.inScope c::k)=exitTo id k:=rfl
theorem exitTo_nil{id:Nat}:exitTo id []=none:=rfl
theorem ev_draw{id:Nat}{ops:List Oper}:ev E ro (n+1) (.code (.region id ops.toArray true)::k) fr σ Q=evD E ops (E.ord id).2 fr.anew σ (evK E ro n k Q):=rfl
@[congr] theorem ev_congr{n:Nat}{todo:List Item}{fr fr':Fr}{σ σ':List AObj}{Q:Post}(h1:fr=fr')(h2:σ=σ'):ev E ro n todo fr σ Q=ev E ro n todo fr' σ' Q:=by rw[h1,h2]
@[congr] theorem evK_congr{k:List Item}{Q:Post}{fr fr':Fr}{σ σ':List AObj}(h1:fr=fr')(h2:σ=σ'):evK E ro n k Q fr σ=evK E ro n k Q fr' σ':=by rw[h1,h2]
end rules
section draws
variable {all:List Oper}{fr:Fr}{σ:List AObj}{Q:Fr→List AObj→Prop}{L:List (Nat×List Nat)}{rs:List Nat}
theorem evD_nil:evD E all [] fr σ Q=Q fr σ:=rfl
@[congr] theorem evD_congr{fr':Fr}{σ':List AObj}{L L':List (Nat×List Nat)}(h0:L=L')(h1:fr=fr')(h2:σ=σ'):evD E all L fr σ Q=evD E all L' fr' σ' Q:=by rw[h0,h1,h2]
@[congr] theorem evDo_congr{fr':Fr}{σ':List AObj}{o o':Option Oper}(h0:o=o')(h1:fr=fr')(h2:σ=σ'):evDo E all rs L fr σ Q o=evDo E all rs L fr' σ' Q o':=by rw[h0,h1,h2]
@[congr] theorem evNextD_congr{dst:Option Tmp}{fr fr':Fr}{v v':AV}{σ σ':List AObj}(h1:fr=fr')(h2:v=v')(h3:σ=σ'):evNextD E all rs L dst fr Q v σ=evNextD E all rs L dst fr' Q v' σ':=by rw[h1,h2,h3]
@[congr] theorem nthO_congr{i:Nat}:nthO all i=nthO all i:=rfl
@[congr] theorem recheck_congr{fr':Fr}{σ':List AObj}(h1:fr=fr')(h2:σ=σ'):recheck E all fr σ rs=recheck E all fr' σ' rs:=by rw[h1,h2]
@[congr] theorem reOK_congr{fr':Fr}{σ':List AObj}{o o':Option Oper}(h0:o=o')(h1:fr=fr')(h2:σ=σ'):reOK E all fr σ o=reOK E all fr' σ' o':=by rw[h0,h1,h2]
theorem nthO_zero{o:Oper}{l:List Oper}:nthO (o::l) 0=some o:=rfl
theorem nthO_succ{o:Oper}{l:List Oper}{i:Nat}:nthO (o::l) (i+1)=nthO l i:=rfl
theorem recheck_nil:recheck E all fr σ []=True:=rfl
theorem recheck_cons{r:Nat}:recheck E all fr σ (r::rs)=(reOK E all fr σ (nthO all r)∧recheck E all fr σ rs):=rfl
theorem reOK_plain{d:Tmp}{op:Op}{type:TypeId}{pos:String}{after:Array Edge}:reOK E all fr σ (some ⟨some d,op,type,pos,after,none⟩)=give2 (fun v _=>fr.get d=some v) (hop E.ty fr σ op):=by
 simp only[reOK,wantA]
 cases hop E.ty fr σ op with
 | none=>rfl
 | some q=>rfl
theorem evDo_plain{dst:Option Tmp}{op:Op}{type:TypeId}{pos:String}{after:Array Edge}:evDo E all rs L fr σ Q (some ⟨dst,op,type,pos,after,none⟩)=evOp E fr σ type op (evNextD E all rs L dst fr Q):=by
 simp[evDo,wantA]
theorem evDp_plain{dst:Option Tmp}{op:Op}{type:TypeId}{pos:String}{after:Array Edge}:evDp E all L fr σ Q (some ⟨dst,op,type,pos,after,none⟩)=evPc E fr σ op (evNextD E all [] L dst fr Q):=by
 simp[evDp,wantA]
theorem evPc_call{f:Operand}{args:Array Operand}{ats:Array TypeId}{X:AV→List AObj→Prop}:evPc E fr σ (.call ⟨.value f,args,ats⟩) X=givP X σ (callP E (aeval fr f) (aevals fr args.toList)):=rfl
def isSelf:List Nat→Nat→Bool
 | [j],i=>j==i
 | _,_=>false
theorem isSelf_nil{i:Nat}:isSelf [] i=false:=rfl
theorem isSelf_one{i j:Nat}:isSelf [j] i=(j==i):=rfl
theorem isSelf_two{i a b:Nat}{l:List Nat}:isSelf (a::b::l) i=false:=rfl
theorem isSelf_eq{i:Nat}:∀{l:List Nat},(l==[i])=isSelf l i
 | []=>rfl
 | [j]=>by simp[isSelf]
 | a::b::l=>by simp[isSelf]
theorem evD_consW{i:Nat}{rs:List Nat}{L:List (Nat×List Nat)}:evD E all ((i,rs)::L) fr σ Q=evDs E all rs L fr σ Q (nthO all i) (isSelf rs i):=by rw[evD_cons,isSelf_eq]
theorem evDo_guard{dst:Option Tmp}{op:Op}{type:TypeId}{pos:String}{after:Array Edge}{j:Nat}{want:Bool}:evDo E all rs L fr σ Q (some ⟨dst,op,type,pos,after,some (j,want)⟩) =
  match dstOf all j with
  | none=>False
  | some d=>match fr.get d with
   | some (.bool b)=>(b=want→evOp E fr σ type op (evNextD E all rs L dst fr Q))∧(b=!want→evNextD E all rs L dst fr Q (.tup []) σ)
   | some (.tup [])=>evNextD E all rs L dst fr Q (.tup []) σ
   | _=>False:=by
 simp only[evDo,wantA,dstOf_eq]
 cases dstOf all j with
 | none=>rfl
 | some d=>
  simp only
  cases h:fr.get d with
  | none=>rfl
  | some v=>
   cases v with
   | bool b=>cases b<;> cases want<;> simp
   | tup vs=>cases vs<;> simp
   | _=>rfl
theorem evNextD_none{v:AV}:evNextD E all rs L none fr Q v σ=(recheck E all fr σ rs∧evD E all L fr σ Q):=rfl
theorem evNextD_some{d:Tmp}{v:AV}:evNextD E all rs L (some d) fr Q v σ=(d<E.N∧recheck E all (fr.put d v) σ rs∧evD E all L (fr.put d v) σ Q):=rfl
end draws
def giveR(Q:AV→List AObj→Prop)(σ:List AObj):Option (List AV)→Prop
 | some vs=>Q (oneOf vs) σ
 | none=>False
def retPost(E:Env)(rs:List ResultVar)(Q:AV→List AObj→Prop):Post:=fun j fr σ=>(j=none∨j=some .ret)∧giveR Q σ (resAs E fr σ rs)
section rets
variable {rs:List ResultVar}{Q:AV→List AObj→Prop}{fr:Fr}{σ:List AObj}
theorem retPost_ret:retPost E rs Q (some .ret) fr σ=giveR Q σ (resAs E fr σ rs):=by simp[retPost]
theorem retPost_none:retPost E rs Q none fr σ=giveR Q σ (resAs E fr σ rs):=by simp[retPost]
@[congr] theorem retPost_congr{j j':Option Code}{fr fr':Fr}{σ σ':List AObj}(h0:j=j')(h1:fr=fr')(h2:σ=σ'):retPost E rs Q j fr σ=retPost E rs Q j' fr' σ':=by rw[h0,h1,h2]
theorem giveR_some{vs:List AV}:giveR Q σ (some vs)=Q (oneOf vs) σ:=rfl
theorem oneOf_one{v:AV}:oneOf [v]=v:=rfl
theorem oneOf_nil:oneOf []= .tup []:=rfl
theorem oneOf_more{u v:AV}{vs:List AV}:oneOf (u::v::vs)= .tup (u::v::vs):=rfl
end rets
theorem ACalls.of_ev(hE:EnvOK E){f:FuncId}{fn:Func}{c:Code}{args:List AV}{σ:List AObj}{Q:AV→List AObj→Prop}(kp:Nat→Bool)(hf:E.P.funcs[f]? = some fn)(hb:fn.body=some c)(hN:fn.ntmps=E.N)(hA:args.length≤E.N)
  (hC:Callable E.P f) (hO:todoOK E [.code c]=true)
  (h:ev E none 100000 [.code c] ⟨kp,[],number 0 args⟩ σ (retPost E fn.results.toList Q)):ACalls E.S f args σ Q:=by
 refine ACalls.of_run hE kp hf hb hN hA hC ((ev_sound hE hO h).mono fun j fr σ' ⟨h1,h2⟩=>⟨h1,?_⟩)
 cases hr:resAs E fr σ' fn.results.toList with
 | none=>rw[hr] at h2;exact h2.elim
 | some vs=>rw[hr] at h2;exact⟨vs,rfl,h2⟩
def subF:List (Nat×AV)→List (Nat×AV)→Prop
 | [],_=>True
 | (d,v)::l,sl=>lookA sl d=some v∧subF l sl
theorem subF_look{sl:List (Nat×AV)}:∀{l:List (Nat×AV)},subF l sl→∀t v,lookA l t=some v→lookA sl t=some v
 | [],_,t,v,h=>by simp[lookA] at h
 | (d,u)::l,hs,t,v,h=>by
  simp only[lookA] at h
  by_cases e:d=t
  ·subst e;rw[if_pos rfl] at h;simp at h;subst h;exact hs.1
  ·rw[if_neg e] at h;exact subF_look hs.2 t v h
theorem ARun.sub{kp:Nat→Bool}{tm sl sl':List (Nat×AV)}{todo:List Item}{σ:List AObj}{Q:Post}(h:ARun E ro todo ⟨kp,[],sl'⟩ σ Q)(hs:subF sl' sl):ARun E ro todo ⟨kp,tm,sl⟩ σ Q:=
 fun M hM K w V a b cs hb hR hO hF=>h M hM K w V a b cs hb hR hO (hF.sub fun t v hv=>by
  have hv':(if kp t=true then lookA sl' t else lookA [] t)=some v:=hv
  show(if kp t=true then lookA sl t else lookA tm t)=some v
  by_cases hk:kp t=true
  ·rw[if_pos hk] at hv'⊢;exact subF_look hs t v hv'
  ·rw[if_neg hk] at hv';cases hv')
def ints(t:Tok)(xs:List Int):AV:= .list t 1 (xs.map (AV.int .i64))
theorem idx_map{α:Type}{f:α→AV}{l:List α}{i:Nat}(h:i<l.length):idx (l.map f) (i:Int)=some (f l[i]):=by
 unfold idx
 rw[if_pos (by omega)]
 simp[h]
end Go.Mu
namespace Go.Mu
open Go Go.Conc
inductive Lt(n:Nat):AV→Prop
 | bool (b:Bool):Lt n (.bool b)
 | int (k:IntKind) (i:Int):Lt n (.int k i)
 | str (s:ByteArray):Lt n (.str s)
 | ptr (r off:Nat) (h:r<n):Lt n (.ptr r off)
 | nilptr:Lt n .nilptr
 | eptr (cs:List AV) (off:Nat) (h:∀j (hj:j<cs.length),Lt n (cs[j])):Lt n (.eptr cs off)
 | list (t:Tok) (sz:Nat) (xs:List AV) (ht:∀id,t= .own id→id<n)
   (h:∀i j (hi:i<xs.length) (hj:j<(xs[i]).cells.length),Lt n ((xs[i]).cells[j])):Lt n (.list t sz xs)
 | arr (r off len:Nat) (h:r<n):Lt n (.arr r off len)
 | vec (r len:Nat) (h:r<n):Lt n (.vec r len)
 | vptr (r m sz i off:Nat) (h:r<n):Lt n (.vptr r m sz i off)
 | map (r:Nat) (h:r<n):Lt n (.map r)
 | nilmap:Lt n .nilmap
 | fn (f:Fn) (first cap:List AV) (g1:∀i (h:i<first.length),Lt n (first[i])) (g2:∀i (h:i<cap.length),Lt n (cap[i])):Lt n (.fn f first cap)
 | yield (r:Nat) (h:r<n):Lt n (.yield r)
 | nilfn:Lt n .nilfn
 | iface (t:TypeId) (v:AV) (h:Lt n v):Lt n (.iface t v)
 | niliface:Lt n .niliface
 | agg (cs:List AV) (h:∀i (h:i<cs.length),Lt n (cs[i])):Lt n (.agg cs)
 | tup (cs:List AV) (h:∀i (h:i<cs.length),Lt n (cs[i])):Lt n (.tup cs)
 | chan (c:Option Nat):Lt n (.chan c)
theorem VR.lt{K:Kr}{n:Nat}{v:AV}{c:Value}(h:VR K n v c):Lt n v:=by
 induction h with
 | bool b=>exact .bool b
 | int k i=>exact .int k i
 | str s=>exact .str s
 | ptr r off h=>exact .ptr r off h
 | nilptr=>exact .nilptr
 | eptr cs off b o f hS h1 _ ih=>exact .eptr cs off ih
 | list t sz xs a cap f hl ht ha hs h1 _ ih=>exact .list t sz xs (fun id e=>by subst e;exact ht.1) ih
 | arr r off len a cap h hl ha=>exact .arr r off len h
 | vec r len a cap h hl ht ha=>exact .vec r len h
 | vptr r m sz i off b o cap h ht=>exact .vptr r m sz i off h
 | map r h=>exact .map r h
 | nilmap=>exact .nilmap
 | fn f first cap first' cap' h1 h2 _ _ i1 i2=>exact .fn f first cap (fun i h=>i1 i h (by omega)) (fun i h=>i2 i h (by omega))
 | yield r h=>exact .yield r h
 | nilfn=>exact .nilfn
 | iface t v c _ ih=>exact .iface t v ih
 | niliface=>exact .niliface
 | agg cs cs' hl h1 _ ih=>exact .agg cs fun i h=>ih i h (by omega)
 | tup cs cs' hl _ ih=>exact .tup cs fun i h=>ih i h (by omega)
 | chan c=>exact .chan c
theorem VR.down{K:Kr}{n n':Nat}{v:AV}{c:Value}(h:VR K n' v c)(h0:Lt n v):VR K n v c:=by
 induction h with
 | bool b=>exact .bool b
 | int k i=>exact .int k i
 | str s=>exact .str s
 | ptr r off h=>cases h0 with | ptr _ _ h0=>exact .ptr r off h0
 | nilptr=>exact .nilptr
 | eptr cs off b o f hS h1 _ ih=>cases h0 with | eptr _ _ h0=>exact .eptr cs off b o f hS h1 fun j hj=>ih j hj (h0 j hj)
 | list t sz xs a cap f hl ht ha hs h1 _ ih=>
  cases h0 with
  | list _ _ _ h2 h0=>
   exact .list t sz xs a cap f hl (by
    cases t with
    | no=>trivial
    | full=>exact ht
    | own id=>exact⟨h2 id rfl,ht.2⟩) ha hs h1 fun i j hi hj=>ih i j hi hj (h0 i j hi hj)
 | arr r off len a cap h hl ha=>cases h0 with | arr _ _ _ h0=>exact .arr r off len a cap h0 hl ha
 | vec r len a cap h hl ht ha=>cases h0 with | vec _ _ h0=>exact .vec r len a cap h0 hl ht ha
 | vptr r m sz i off b o cap h ht=>cases h0 with | vptr _ _ _ _ _ h0=>exact .vptr r m sz i off b o cap h0 ht
 | map r h=>cases h0 with | map _ h0=>exact .map r h0
 | nilmap=>exact .nilmap
 | fn f first cap first' cap' h1 h2 _ _ i1 i2=>cases h0 with | fn _ _ _ g1 g2=>exact .fn f first cap first' cap' h1 h2 (fun i h h'=>i1 i h h' (g1 i h)) (fun i h h'=>i2 i h h' (g2 i h))
 | yield r h=>cases h0 with | yield _ h0=>exact .yield r h0
 | nilfn=>exact .nilfn
 | iface t v c _ ih=>cases h0 with | iface _ _ h0=>exact .iface t v c (ih h0)
 | niliface=>exact .niliface
 | agg cs cs' hl h1 _ ih=>cases h0 with | agg _ h0=>exact .agg cs cs' hl h1 fun i h h'=>ih i h h' (h0 i h)
 | tup cs cs' hl _ ih=>cases h0 with | tup _ h0=>exact .tup cs cs' hl fun i h h'=>ih i h h' (h0 i h)
 | chan c=>exact .chan c
theorem ObjR.down{K0 K:Kr}{n n':Nat}{w0 w:World}{r:Nat}{o:AObj}(h0:ObjR K0 n w0 r o)(h:ObjR K n' w r o):ObjR K n w r o:=by
 cases o with
 | cells cs=>
  obtain⟨cc,E,h1,h2,h3,h4⟩:=h
  obtain⟨cc0,E0,_,g2,_⟩:=h0
  exact⟨cc,E,h1,⟨h2.1,fun i a b=>(h2.2 i a b).down (g2.2 i a (by have:=g2.1;omega)).lt⟩,h3,h4⟩
 | tail m sz=>exact h
 | vec sz xs=>
  obtain⟨a,cap,h1,h2,h3,h4,h5⟩:=h
  obtain⟨a0,cap0,g1,g2,_,_,g5⟩:=h0
  have ltv:∀i (h:i<(xs.flatMap AV.cells).length),Lt n (xs.flatMap AV.cells)[i]:=fun i hi=>by
   have hx:0<xs.length:=by
    rcases Nat.eq_zero_or_pos xs.length with e | e
    ·rw[List.length_eq_zero_iff.1 e] at hi;simp at hi
    ·exact e
   obtain⟨_,_,_,_,_,_,_,k4,_⟩:=g5 (by omega)
   exact(k4.2 i hi (by rw[← k4.1];exact hi)).lt
  refine⟨a,cap,h1,h2,h3,h4,fun hc=>?_⟩
  obtain⟨b,o,cc,E,k1,k2,k3,k4,k5,k6⟩:=h5 hc
  exact⟨b,o,cc,E,k1,k2,k3,⟨k4.1,fun i a b=>(k4.2 i a b).down (ltv i a)⟩,k5,k6⟩
 | map es=>
  obtain⟨es',clock,h1,h2,h3,h4⟩:=h
  obtain⟨es0,clock0,_,g2,_,g4⟩:=h0
  refine⟨es',clock,h1,h2,h3,fun i a b=>?_⟩
  obtain⟨k1,k2,k3⟩:=h4 i a b
  obtain⟨l1,l2,_⟩:=g4 i a (by omega)
  exact⟨k1.down l1.lt,k2.down l2.lt,k3⟩
 | iter m c s=>
  obtain⟨m',h1,h2⟩:=h
  obtain⟨m0,_,g2⟩:=h0
  refine⟨m',h1,?_⟩
  cases m with
  | none=>exact h2
  | some q=>exact⟨g2.1,h2.2⟩
 | siter s p=>exact h
 | loop st pend fn params assign body N fr=>
  obtain⟨l,h1,h2,h3,h4,h5,h6,h7,h8⟩:=h
  obtain⟨l0,_,_,_,_,_,_,_,g8⟩:=h0
  refine⟨l,h1,h2,h3,h4,h5,h6,h7,h8.1,fun t v hv=>?_⟩
  obtain⟨c,k1,k2⟩:=h8.2 t v hv
  obtain⟨c0,_,l2⟩:=g8.2 t v hv
  exact⟨c,k1,k2.down l2.lt⟩
 | dead=>trivial
theorem R.drop{K0 K:Kr}{σ junk:List AObj}{w0 w:World}(h0:R K0 σ w0)(h:R K (σ++junk) w){Sh V0 V:Nat→Prop}(hS:StepV V0 K0 σ w0 V K (σ++junk) w)(hO:OwnV Sh V K (σ++junk) w):R K σ w∧StepV V0 K0 σ w0 V K σ w∧OwnV Sh V K σ w:=by
 have hlt:∀{r o},σ[r]? = some o→r<σ.length:=fun h=>(List.getElem?_eq_some_iff.1 h).1
 have hget:∀r o,σ[r]? = some o→(σ++junk)[r]? = some o:=fun r o hr=>by rw[List.getElem?_append_left (hlt hr)];exact hr
 refine⟨⟨h.stab,fun r o hr=>(h0.obj r o hr).down (h.obj r o (hget r o hr)),fun r r' o o' b h1 h2=>h.inj r r' o o' b (hget r o h1) (hget r' o' h2),fun g cs hg=>⟨(h.lay g cs hg).1,fun r o hr=>(h.lay g cs hg).2 r o (hget r o hr)⟩⟩,?_⟩
 refine⟨⟨hS.ext,Nat.le_refl _,hS.size,fun b hb hv hf=>by
  obtain⟨m1,m2,m3⟩:=hS.keep b hb hv hf
  exact⟨m1,fun r o hr=>m2 r o (hget r o hr),m3⟩,hS.sub,hS.new,hS.os,hS.tape,hS.output⟩,?_⟩
 exact⟨fun b hb=>hO.obj b fun hf=>hb fun r o hr=>hf r o (hget r o hr),hO.stab,hO.lay,hO.sh⟩
def Weak(v v':AV):Prop:=∀K n c,VR K n v c→VR K n v' c
theorem Weak.refl(v:AV):Weak v v:=fun _ _ _ h=>h
theorem Weak.agg{cs cs':List AV}(hl:cs.length=cs'.length)(h:∀i (h:i<cs.length) (h':i<cs'.length),Weak (cs[i]) (cs'[i])):Weak (.agg cs) (.agg cs'):=fun K n c hv=>by
 cases hv with
 | agg _ cc hl' h1 h2=>exact .agg cs' cc (by omega) h1 fun i a b=>h i (by omega) a K n _ (h2 i (by omega) b)
theorem Weak.tup{cs cs':List AV}(hl:cs.length=cs'.length)(h:∀i (h:i<cs.length) (h':i<cs'.length),Weak (cs[i]) (cs'[i])):Weak (.tup cs) (.tup cs'):=fun K n c hv=>by
 cases hv with
 | tup _ cc hl' h2=>exact .tup cs' cc (by omega) fun i a b=>h i (by omega) a K n _ (h2 i (by omega) b)
theorem ACalls.clean{P:Program}{S:MC P}{f:FuncId}{args:List AV}{σ:List AObj}{Q:AV→List AObj→Prop}(h:ACalls S f args σ fun v σ'=>∃v' junk,σ'=σ++junk∧Weak v v'∧Lt σ.length v'∧Q v' σ):ACalls S f args σ Q:=by
 refine⟨h.1,fun M hM K w V cargs kd cs hR hO hV=>M.bind (h.2 M hM K w V cargs kd cs hR hO hV) ?_⟩
 rintro g' w' V' ⟨fr,v,σ',K',h1,h2,h3,h4,⟨v',junk,rfl,hw,hlt,hq⟩,hR',hO',hS⟩
 obtain⟨r1,r2,r3⟩:=hR.drop hR' hS hO'
 refine M.ret ⟨fr,v',σ,K',h1,h2,h3,⟨h4.mode,h4.defers,?_⟩,hq,r1,r3,r2⟩
 obtain⟨fn,k1,k2⟩:=h4.fn
 refine⟨fn,k1,fun w₁ hr=>?_⟩
 obtain⟨c,k3,k4,k5⟩:=k2 w₁ hr
 exact⟨c,k3,(hw _ _ _ k4).down hlt,k5⟩
theorem ARun.mind{E:Env}{ro:Option Nat}{todo:List Item}{fr fr':Fr}{σ σ':List AObj}{Q:Post}(h:ARun E ro todo fr' σ' Q)
  (hm:∀(K:Kr) (w:World) (tmps:Array Value),R K σ w→FR K σ.length E.N fr tmps→∃K',R K' σ' w∧FR K' σ'.length E.N fr' tmps∧Step K σ w K' σ' w):ARun E ro todo fr σ Q:=by
 intro M hM K w V a b cs hb hR hO hF
 obtain⟨K',h1,h2,h3⟩:=hm K w a.tmps hR hF
 exact ARun.go (h M hM) (hb.mono h3.ext h3.len) h1 (hO.mind hR h1 h3) h2 (.of_mind h3) rfl
theorem ARun.ghost{E:Env}{ro:Option Nat}{todo:List Item}{kp:Nat→Bool}{tm sl:List (Nat×AV)}{σ:List AObj}{Q:Post}(d sz:Nat){sz0:Nat}(hd:kp d=true)(hl:lookA sl d=some (.list .full sz0 []))
  (h:ARun E ro todo ⟨kp,[],ins sl d (.list (.own σ.length) sz [])⟩ (σ++[.tail 0 sz]) Q):ARun E ro todo ⟨kp,tm,sl⟩ σ Q:=by
 refine h.mind fun K w tmps hR hF=>?_
 obtain⟨c,hc,hv⟩:=hF.2 d (.list .full sz0 []) (by show(if kp d=true then lookA sl d else lookA tm d)=_;rw[if_pos hd];exact hl)
 cases hv with
 | list _ _ _ a cap f hl' ht ha hs h1 hh=>
  have hcap:cap=0:=ht
  subst hcap
  let K':Kr:={K with tl:=fun q=>if q=σ.length then fun m=>if m=0 then some (a,0) else none else K.tl q}
  have he:Ext σ.length K K':=⟨fun _ _=>rfl,fun r hr m x hx=>by
   show(if r=σ.length then _ else K.tl r) m=some x
   rw[if_neg (by omega)];exact hx,fun _ _ _ h=>h⟩
  have htl:K'.tl σ.length=fun m=>if m=0 then some (a,0) else none:=by
   show(if σ.length=σ.length then _ else _)=_
   rw[if_pos rfl]
  obtain⟨r1,r2⟩:=hR.ghostAt (σ':=σ++[.tail 0 sz]) σ.length (.tail 0 sz) K' he (by simp) (by simp) (fun q o' hq hg=>by
   rw[List.getElem?_append] at hg
   split at hg
   ·exact hg
   ·cases hk:q-σ.length with
    | zero=>omega
    | succ j=>rw[hk] at hg;simp at hg) (fun q hq=>by show(if q=σ.length then _ else K.tl q)=_;rw[if_neg hq]) rfl (fun b hb=>by
   obtain⟨a',cap',g1,g2,_⟩:=hb
   rw[htl] at g1;simp at g1;omega) ⟨a,0,by rw[htl];rfl,Nat.le_refl _,fun k hk=>by rw[htl];simp;omega,fun h=>by omega⟩
  refine⟨K',r1,⟨hF.1,fun t v hv=>?_⟩,r2⟩
  have hv':(if kp t=true then lookA (ins sl d (.list (.own σ.length) sz [])) t else lookA [] t)=some v:=hv
  by_cases hk:kp t=true
  ·rw[if_pos hk,lookA_ins] at hv'
   by_cases e:d=t
   ·subst e
    rw[if_pos rfl] at hv';simp at hv';subst hv'
    refine⟨_,hc,?_⟩
    exact .list (.own σ.length) sz [] a 0 f (Nat.le_refl _) ⟨by simp,by rw[htl];rfl⟩ (fun h=>absurd rfl h) (fun i hi=>by simp at hi) (fun i j hi=>by simp at hi) (fun i j hi=>by simp at hi)
   ·rw[if_neg e] at hv'
    obtain⟨c',k1,k2⟩:=hF.2 t v (by show(if kp t=true then lookA sl t else lookA tm t)=_;rw[if_pos hk];exact hv')
    exact⟨c',k1,k2.mono he (by simp)⟩
  ·rw[if_neg hk] at hv';cases hv'
theorem hset_hset{σ:List AObj}{r:Nat}{a b:AObj}:hset (hset σ r a) r b=hset σ r b:=by unfold hset;simp
theorem hset_same{σ:List AObj}{r:Nat}{x:AObj}(h:hget σ r=some x):hset σ r x=σ:=by
 unfold hget at h;unfold hset
 obtain⟨h1,h2⟩:=List.getElem?_eq_some_iff.1 h
 rw[← h2];exact List.set_getElem_self h1
theorem hget_set{σ:List AObj}{r:Nat}{x:AObj}(h:hget σ r=some x)(o:AObj):hget (hset σ r o) r=some o:=by
 unfold hget at h;unfold hget hset
 have:=(List.getElem?_eq_some_iff.1 h).1
 simp[this]
theorem hget_ne{σ:List AObj}{r q:Nat}{o:AObj}(h:r≠q):hget (hset σ r o) q=hget σ q:=by
 unfold hget hset;rw[List.getElem?_set_ne h]
theorem length_hset{σ:List AObj}{r:Nat}{o:AObj}:(hset σ r o).length=σ.length:=by unfold hset;simp
theorem hget_at0{σ l:List AObj}:hget (σ++l) σ.length=l[0]? :=by unfold hget;rw[List.getElem?_append_right (by omega)];simp
theorem hget_at{σ l:List AObj}{k:Nat}:hget (σ++l) (σ.length+k)=l[k]? :=by unfold hget;rw[List.getElem?_append_right (by omega)];simp
theorem hset_at0{σ l:List AObj}{o:AObj}:hset (σ++l) σ.length o=σ++l.set 0 o:=by unfold hset;rw[List.set_append_right _ _ (by omega)];simp
theorem hset_at{σ l:List AObj}{k:Nat}{o:AObj}:hset (σ++l) (σ.length+k) o=σ++l.set k o:=by unfold hset;rw[List.set_append_right _ _ (by omega)];simp
end Go.Mu
