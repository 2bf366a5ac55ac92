/- A range over an iterator that looks at some objects alone. -/
import Derived.Test.YtgbdndlmdklefaaGreatHK15
set_option linter.unusedSimpArgs false
set_option linter.unusedVariables false
namespace Go.Mu
open Go Go.Conc
def MF{P:Program}(S:MC P)(g:FuncId)(p q:List AV)(F:Nat→Prop)(σ:List aa)(L:List AV):Prop:=
 ∀r (T:kR S r L) σ',(∀k,F k→ai σ' k=ai σ k∧¬T.M k)→T.C [] σ'→
  ao S g (p++[.yield r]++q) σ' fun _ σ''=>bZ T.M σ' σ''∧(T.C L σ''∨∃D v R,L=D++v::R∧T.St (D++[v]) σ'')
theorem aj.CQ{E:Env}{f:Operand}{ps:Array Tmp}{as body:Code}{k:List Item}{fr:Fr}{g:FuncId}{p q:List AV}{F:Nat→Prop}{σ0 σ1:List aa}{Q:au}{L:List AV}(hf:aH fr f=some (.fn (.func g) p q))(hI:MF E.S g p q F σ0 L)(hs:∀k,F k→ai σ1 k=ai σ0 k∧k<σ1.length)
  (hps:∃t,ps= #[t]∧t<E.N) (M0:Nat→Prop) (hM:∀q,M0 q→¬F q∧q<σ1.length) (Cc:List AV→List aa→Prop) (Sc:Code→List aa→Prop)
  (hC0:Cc [] σ1) (hCk:∀{D τ τ'},Cc D τ→(∀q,M0 q→ai τ' q=ai τ q)→Cc D τ') (hSk:∀{j τ τ'},Sc j τ→(∀q,M0 q→ai τ' q=ai τ q)→Sc j τ')
  (hb:∀D v R fn τ,L=D++v::R→Cc D τ→σ1.length<τ.length→ai τ σ1.length=some (.loop .ready none fn ps as body E.N fr)→
   aj E (some σ1.length) [.code as,.beginRound,.code body] (sB fr ps.toList [v]) τ fun j fr2 τ2=>bZ (fun q=>M0 q∨q=σ1.length) τ τ2∧(∃pend',ai τ2 σ1.length=some (.loop .busy pend' fn ps as body E.N fr))∧(j=none∧Cc (D++[v]) τ2∨∃jc,j=some jc∧(∀t,jc≠ .goto t)∧Sc jc τ2))
  (hk:∀τ,σ1.length<τ.length→(∀q,q<σ1.length→¬M0 q→ai τ q=ai σ1 q)→Cc L τ→aj E none k fr τ Q)
  (hk':∀τ j,σ1.length<τ.length→(∀q,q<σ1.length→¬M0 q→ai τ q=ai σ1 q)→Sc j τ→aj E none (.code j::k) fr τ Q) :
  aj E none (.code (.rangeFunc f ps as body)::k) fr σ1 Q:=by
 obtain⟨t0,rfl,ht0⟩:=hps
 refine aj.rangeFunc hf fun fn=>?_
 let rec0:aa:= .loop .ready none fn #[t0] as body E.N fr
 let T:kR E.S σ1.length L:={
  M:=fun q=>M0 q∨q=σ1.length
  C:=fun D τ=>σ1.length<τ.length∧ai τ σ1.length=some rec0∧Cc D τ
  St:=fun D τ=>σ1.length<τ.length∧∃j,ai τ σ1.length=some (.loop .done (some j) fn #[t0] as body E.N fr)∧Sc j τ
  lt:=fun{D σ q} hc hm=>by
   rcases hm with hm | hm
   ·exact Nat.lt_trans (hM q hm).2 hc.1
   ·subst hm;exact hc.1
  keep:=fun{D σ σ'} hc hs=>⟨Nat.lt_of_lt_of_le hc.1 hs.1,by rw[hs.2 _ (.inr rfl)];exact hc.2.1,hCk hc.2.2 fun q hq=>hs.2 q (.inl hq)⟩
  keepS:=fun{D σ σ'} hc hs=>⟨Nat.lt_of_lt_of_le hc.1 hs.1,by
   obtain⟨j,h1,h2⟩:=hc.2
   exact⟨j,by rw[hs.2 _ (.inr rfl)];exact h1,hSk h2 fun q hq=>hs.2 q (.inl hq)⟩⟩
  take:=fun{D R τ v} hL hc=>by
   obtain⟨c1,c2,c3⟩:=hc
   refine eY.of (E:=E) (args:=[v]) c2 rfl (by simpa using ht0) ((hb D v R fn τ hL c3 c1 c2).mono fun j fr2 τ2 hj=>?_)
   obtain⟨hsame,⟨pend',hp⟩,hcase⟩:=hj
   have hn:=aN hp
   have hne:∀q,M0 q→∀o,ai (ax τ2 σ1.length o) q=ai τ2 q:=fun q hq o=>by
    rw[cG,if_neg];intro h;have:=(hM q hq).2;omega
   refine⟨fun t ht=>?_,pend',hp,⟨by rw[aJ];exact hsame.1,fun q hq hm=>?_⟩,?_⟩
   ·rcases hcase with⟨h1,_⟩ | ⟨jc,h1,h2,_⟩
    ·rw[h1] at ht;cases ht
    ·rw[h1] at ht;simp at ht;exact h2 t ht
   ·rw[cG,if_neg (fun h=>hm (.inr h.1.symm))];exact hsame.2 q hq hm
   ·rcases hcase with⟨h1,h2⟩ | ⟨jc,h1,h2,h3⟩
    ·left
     subst h1
     refine⟨rfl,by rw[aJ];exact hn,?_,hCk h2 fun q hq=>hne q hq _⟩
     rw[cG,if_pos ⟨rfl,hn⟩];rfl
    ·right
     subst h1
     refine⟨rfl,by rw[aJ];exact hn,jc,?_,hSk h3 fun q hq=>hne q hq _⟩
     rw[cG,if_pos ⟨rfl,hn⟩];rfl}
 have hlen:(σ1++[rec0]).length=σ1.length+1:=by simp
 refine(hI σ1.length T (σ1++[rec0]) (fun k hk=>⟨by rw[aB (hs k hk).2];exact(hs k hk).1,fun hm=>?_⟩) ⟨by omega,a8,hCk hC0 fun q hq=>aB (hM q hq).2⟩).mono fun v τ hv=>?_
 ·rcases hm with hm | hm
  ·exact(hM k hm).1 hk
  ·have:=(hs k hk).2;omega
 ·obtain⟨hsame,hv⟩:=hv
  have hold:∀q,q<σ1.length→¬M0 q→ai (ax τ σ1.length .dead) q=ai σ1 q:=fun q hq hm=>by
   rw[cG,if_neg (fun h=>by omega),hsame.2 q (by omega) (fun h=>by rcases h with h | h;exact hm h;omega)]
   exact aB hq
  rcases hv with⟨c1,c2,c3⟩ | ⟨D,v',R,hL,c1,j,c2,c3⟩
  ·exact⟨.ready,none,by simp,c2,hk _ (by rw[aJ];exact c1) hold (hCk c3 fun q hq=>by
    rw[cG,if_neg];intro h;have:=(hM q hq).2;omega)⟩
  ·exact⟨.done,some j,by simp,c2,hk' _ j (by rw[aJ];exact c1) hold (hSk c3 fun q hq=>by
    rw[cG,if_neg];intro h;have:=(hM q hq).2;omega)⟩
end Go.Mu
