/- Part R of the abstract layer: statements whose order is drawn. -/
import Derived.Test.YtgbdndlmdklefaaGreatHK07
set_option linter.unusedSimpArgs false
set_option linter.unusedVariables false
namespace Go.Mu
open Go Go.Conc
variable {E:Env}{ro:Option Nat}{K:Kr}{n:Nat}
def isN:Op→Bool
 | .move _ | .pick .. | .build .. | .buildSlice .. | .fieldAddr .. | .field .. | .index .. | .indexAddr .. | .nilCheck _ | .unOp .. | .convert ..
 | .makeInterface .. | .makeFunc .. | .extract .. | .typeAssert .. | .slice .. | .load .. =>true
 | .call ⟨.builtin .len,_,_⟩ | .call ⟨.builtin .max,_,_⟩ | .call ⟨.builtin .min,_,_⟩=>true
 | .binOp _ _ _ y _=> !dn y
 | _=>false
def isL:Op→Bool
 | .load .. =>true
 | _=>false
def fp:Op→Bool
 | .call ⟨.value _,_,_⟩=>true
 | _=>false
def dB(p:Nat×List Nat)(o:Oper):Bool:=isN o.op||(fp o.op&&p.2==[p.1])
def isA(ty:Nat→TI)(N:Nat)(o:Oper):Bool:=match o.op,o.dst with
 | .alloc t,some d=>(ty t).kd.agg.isSome&&decide (d<N)&&o.guard.isNone
 | _,_=>false
def nms(ops:Array Oper)(o:Oper):List Tmp:=o.dst.toList++o.looksAt ops
def pred(m:List Nat)(j i:Nat):Bool:=(m.getD j 0).testBit i
def foldM(m:List Nat)(s:Nat)(e:Edge):Nat:=if Region.binds .any e then s|||(2^e.on|||m.getD e.on 0) else s
def vo(m:List Nat)(ops:Array Oper):Bool:=(List.range ops.size).all fun j=>match ops[j]? with
 | some o=>m.getD j 0==o.after.toList.foldl (foldM m) 0&&o.after.toList.all (fun e=> !Region.binds .any e||decide (e.on<j))
 | none=>false
def chk(ty:Nat→TI)(N:Nat)(m:List Nat)(ops:Array Oper)(p q:Nat×List Nat):Bool:=
 match ops[p.1]?,ops[q.1]? with
 | some o,some o'=>
  p.1 !=q.1&& !pred m p.1 q.1&&
  (isA ty N o'||dB p o||pred m q.1 p.1)&&
  (!(dB q o'||isA ty N o')||o'.dst.toList.all (fun d=> !(nms ops o).contains d))&&
  (dB q o'||isA ty N o'|| !dB p o||pred m q.1 p.1||(o'.dst.toList.all (fun d=> !(nms ops o).contains d)&&(!isL o.op||q.2.contains p.1)))&&
  (!dB p o||pred m q.1 p.1||o.dst.toList.all (fun d=> !(nms ops o').contains d))
 | _,_=>false
def tW{α:Type}(f:α→α→Bool):List α→Bool
 | []=>true
 | x::l=>l.all (f x)&&tW f l
theorem sO{α:Type}{f:α→α→Bool}:∀{l l':List α},tW f (l++l')=true→∀p∈l,∀q∈l',f p q=true
 | [],_,_,_,hp=>by cases hp
 | x::l,l',h,p,hp=>by
  simp only[List.cons_append,tW,Bool.and_eq_true,List.all_eq_true] at h
  intro q hq
  rcases List.mem_cons.1 hp with rfl | hp
  ·exact h.1 q (by simp[hq])
  ·exact sO h.2 p hp q hq
def pC(ops:Array Oper)(p:Nat×List Nat):Bool:=match ops[p.1]? with
 | some o=>(!(p.2==[p.1])||fp o.op)&&(!dB p o||o.dst.toList.all (fun d=> !(o.looksAt ops).contains d))
 | none=>false
def uk(ty:Nat→TI)(N:Nat)(ops:Array Oper)(c:List Nat×List (Nat×List Nat)):Bool:=
 vo c.1 ops&&(List.range ops.size).all (fun i=>c.2.any (·.1==i))&&tW (chk ty N c.1 ops) c.2&&c.2.all (pC ops)
theorem pX(m:List Nat)(i:Nat):∀(l:List Edge) (s:Nat),(l.foldl (foldM m) s).testBit i=true→s.testBit i=true∨∃e∈l,Region.binds .any e=true∧(i=e.on∨pred m e.on i=true)
 | [],s,h=> .inl h
 | e::l,s,h=>by
  rcases pX m i l _ h with h1 | ⟨e',h1,h2⟩
  ·unfold foldM at h1
   split at h1
   ·rename_i hb
    simp only[Nat.testBit_or,Bool.or_eq_true] at h1
    rcases h1 with h1 | h1 | h1
    ·exact .inl h1
    ·rw[Nat.testBit_two_pow] at h1
     exact .inr ⟨e,by simp,hb,.inl (by simpa[eq_comm] using h1)⟩
    ·exact .inr ⟨e,by simp,hb,.inr h1⟩
   ·exact .inl h1
  ·exact .inr ⟨e',by simp[h1],h2⟩
theorem vx{m:List Nat}{ops:Array Oper}(hm:vo m ops=true){X:Nat→Prop}(hc:∀j o,ops[j]? = some o→X j→∀e∈o.after,Region.binds .any e=true→X e.on)(i:Nat) :
  ∀(j:Nat) (o:Oper),ops[j]? = some o→(∀e∈o.after,Region.binds .any e=true→X e.on)→pred m j i=true→X i:=by
 intro j
 induction j using Nat.strongRecOn with
 | _ j ih=>
  intro o ho hd hp
  have hj:j<ops.size:=(Array.getElem?_eq_some_iff.1 ho).1
  have h1:=List.all_eq_true.1 hm j (List.mem_range.2 hj)
  simp only[ho,Bool.and_eq_true,beq_iff_eq,List.all_eq_true,Bool.or_eq_true,Bool.not_eq_true',decide_eq_true_eq] at h1
  unfold pred at hp
  rw[h1.1] at hp
  rcases pX m i _ _ hp with h2 | ⟨e,h2,h3,h4⟩
  ·simp at h2
  ·have he:e∈o.after:=by simpa using h2
   rcases h4 with rfl | h4
   ·exact hd e he h3
   ·have hlt:e.on<j:=by
     rcases h1.2 e h2 with h5 | h5
     ·rw[h3] at h5;cases h5
     ·exact h5
    have ho':ops[e.on]? = some ops[e.on]:=Array.getElem?_eq_getElem (by omega)
    exact ih e.on hlt _ ho' (hc _ _ ho' (hd e he h3)) h4
def eA:List Oper→Nat→Option Oper
 | [],_=>none
 | o::_,0=>some o
 | _::l,i+1=>eA l i
theorem BW:∀(l:List Oper) (i:Nat),eA l i=l[i]?
 | [],_=>by simp[eA]
 | o::_,0=>by simp[eA]
 | _::l,i+1=>by simp[eA,BW l i]
def mE(E:Env)(all:List Oper)(fr:Fr)(σ:List aa):Option Oper→Prop
 | none=>False
 | some o=>match bK all fr o.guard with
  | some true=>match hop E.ty fr σ o.op with
   | some (v,_)=>match o.dst with
    | some d=>fr.get d=some v
    | none=>True
   | none=>False
  | some false=>True
  | none=>False
def recheck(E:Env)(all:List Oper)(fr:Fr)(σ:List aa):List Nat→Prop
 | []=>True
 | r::rs=>mE E all fr σ (eA all r)∧recheck E all fr σ rs
def xr(E:Env)(f:Option AV)(as:Option (List AV)):Option AV:=match f,as with
 | some (.fn (.func g) p q),some as=>E.fs g (p++as++q)
 | _,_=>none
def ox(E:Env)(fr:Fr):Op→Option AV
 | .call ⟨.value f,args,_⟩=>xr E (aH fr f) (bI fr args.toList)
 | _=>none
def EB(X:AV→List aa→Prop)(σ:List aa):Option AV→Prop
 | some v=>X v σ
 | none=>False
def nI(E:Env)(fr:Fr)(σ:List aa)(op:Op)(X:AV→List aa→Prop):Prop:=EB X σ (ox E fr op)
theorem GI{X:AV→List aa→Prop}{σ:List aa}{v:AV}:EB X σ (some v)=X v σ:=rfl
theorem Ff{E:Env}{g:FuncId}{p q as:List AV}:xr E (some (.fn (.func g) p q)) (some as)=E.fs g (p++as++q):=rfl
def evD(E:Env)(all:List Oper):List (Nat×List Nat)→Fr→List aa→(Fr→List aa→Prop)→Prop
 | [],fr,σ,Q=>Q fr σ
 | p::L,fr,σ,Q=>
  let next:Option Tmp→AV→List aa→Prop:=fun dst v σ'=>match dst with
   | none=>recheck E all fr σ' p.2∧evD E all L fr σ' Q
   | some d=>d<E.N∧recheck E all (fr.put d v) σ' p.2∧evD E all L (fr.put d v) σ' Q
  let pure:Option Tmp→AV→List aa→Prop:=fun dst v σ'=>match dst with
   | none=>recheck E all fr σ' []∧evD E all L fr σ' Q
   | some d=>d<E.N∧recheck E all (fr.put d v) σ' []∧evD E all L (fr.put d v) σ' Q
  match p.2==[p.1],eA all p.1 with
  | true,some o=>match bK all fr o.guard with
   | none=>False
   | some b=>(b=true→nI E fr σ o.op (pure o.dst))∧(b=false→pure o.dst (.tup []) σ)
  | false,some o=>match bK all fr o.guard with
   | none=>False
   | some b=>(b=true→aP E fr σ o.type o.op (next o.dst))∧(b=false→next o.dst (.tup []) σ)
  | _,none=>False
def br(E:Env)(all:List Oper)(rs:List Nat)(L:List (Nat×List Nat))(dst:Option Tmp)(fr:Fr)(Q:Fr→List aa→Prop)(v:AV)(σ:List aa):Prop:=
 match dst with
 | none=>recheck E all fr σ rs∧evD E all L fr σ Q
 | some d=>d<E.N∧recheck E all (fr.put d v) σ rs∧evD E all L (fr.put d v) σ Q
def iq(E:Env)(all:List Oper)(rs:List Nat)(L:List (Nat×List Nat))(fr:Fr)(σ:List aa)(Q:Fr→List aa→Prop):Option Oper→Prop
 | none=>False
 | some o=>match bK all fr o.guard with
  | none=>False
  | some b=>(b=true→aP E fr σ o.type o.op (br E all rs L o.dst fr Q))∧(b=false→br E all rs L o.dst fr Q (.tup []) σ)
def lH(E:Env)(all:List Oper)(L:List (Nat×List Nat))(fr:Fr)(σ:List aa)(Q:Fr→List aa→Prop):Option Oper→Prop
 | none=>False
 | some o=>match bK all fr o.guard with
  | none=>False
  | some b=>(b=true→nI E fr σ o.op (br E all [] L o.dst fr Q))∧(b=false→br E all [] L o.dst fr Q (.tup []) σ)
def nX(E:Env)(all:List Oper)(rs:List Nat)(L:List (Nat×List Nat))(fr:Fr)(σ:List aa)(Q:Fr→List aa→Prop)(o:Option Oper):Bool→Prop
 | true=>lH E all L fr σ Q o
 | false=>iq E all rs L fr σ Q o
theorem FO{all:List Oper}{rs:List Nat}{L:List (Nat×List Nat)}{fr:Fr}{σ:List aa}{Q:Fr→List aa→Prop}{o:Option Oper}:nX E all rs L fr σ Q o true=lH E all L fr σ Q o:=rfl
theorem EI{all:List Oper}{rs:List Nat}{L:List (Nat×List Nat)}{fr:Fr}{σ:List aa}{Q:Fr→List aa→Prop}{o:Option Oper}:nX E all rs L fr σ Q o false=iq E all rs L fr σ Q o:=rfl
theorem oe(all:List Oper)(i:Nat)(rs:List Nat)(L:List (Nat×List Nat))(fr:Fr)(σ:List aa)(Q:Fr→List aa→Prop):evD E all ((i,rs)::L) fr σ Q=nX E all rs L fr σ Q (eA all i) (rs==[i]):=by
 simp only[evD]
 cases hb:rs==[i] with
 | true=>
  cases eA all i with
  | none=>rfl
  | some o=>
   simp only[nX,lH]
   cases bK all fr o.guard with
   | none=>rfl
   | some b=>cases h:o.dst<;> rfl
 | false=>
  cases eA all i with
  | none=>rfl
  | some o=>
   simp only[nX,iq]
   cases bK all fr o.guard with
   | none=>rfl
   | some b=>cases h:o.dst<;> rfl
def nop(E:Env)(fr:Fr)(σ:List aa)(type:TypeId)(op:Op):Option (AV×List aa):=match fp op with
 | true=>(ox E fr op).map fun v=>(v,σ)
 | false=>aop E fr σ type op
theorem QK{op:Op}(h:isN op=true):fp op=false:=by
 cases op with
 | call c=>
  obtain⟨callee,args,ats⟩:=c
  cases callee<;> simp[isN] at h<;> rfl
 | _=>rfl
theorem ub{p:Nat×List Nat}{o:Oper}(h:dB p o=true):(fp o.op=false∧isN o.op=true)∨(fp o.op=true∧p.2=[p.1]):=by
 simp only[dB,Bool.or_eq_true,Bool.and_eq_true,beq_iff_eq] at h
 rcases h with h | h
 ·exact .inl ⟨QK h,h⟩
 ·exact .inr h
theorem Mt{fr:Fr}{σ σ':List aa}{type:TypeId}{op:Op}{v:AV}(hn:isN op=true)(h:aop E fr σ type op=some (v,σ')):σ'=σ:=by
 unfold aop at h
 split at h
 ·simp at h;exact h.2.symm
 ·split at h
  ·simp at h;exact h.2.symm
  ·cases op with
   | load t x=>
    simp only[hop] at h
    split at h
    ·split at h
     ·simp only[Option.map_eq_some_iff,Prod.mk.injEq] at h
      obtain⟨_,_,_,h⟩:=h;exact h.symm
     ·cases h
    ·simp only[Option.map_eq_some_iff,Prod.mk.injEq] at h
     obtain⟨_,_,_,h⟩:=h;exact h.symm
    ·split at h
     ·split at h
      ·unfold tG at h
       split at h
       ·simp only[Option.map_eq_some_iff,Prod.mk.injEq] at h
        obtain⟨_,_,_,h⟩:=h;exact h.symm
       ·cases h
      ·cases h
     ·cases h
    ·cases h
   | call c=>
    obtain⟨callee,args,ats⟩:=c
    cases callee with
    | builtin b=>cases b<;> simp[isN] at hn<;> simp[hop] at h
    | _=>simp[isN] at hn
   | convert s d x=>
    simp only[hop,Option.map_eq_some_iff,Prod.mk.injEq] at h
    obtain⟨_,_,_,h⟩:=h;exact h.symm
   | _=>first | (simp[isN] at hn;done) | (simp[hop] at h;done)
theorem z8{fr:Fr}{σ σ':List aa}{type:TypeId}{op:Op}{v:AV}(hn:isN op=true)(hl:isL op=false)(h:aop E fr σ type op=some (v,σ)):aop E fr σ' type op=some (v,σ'):=by
 by_cases hcv:∃s d x,op= .convert s d x
 ·obtain⟨s,d,x,rfl⟩:=hcv
  unfold aop at h⊢
  cases h1:pop E.ty fr type (.convert s d x) with
  | some u=>rw[h1] at h;simp only[Option.some.injEq,Prod.mk.injEq,and_true] at h⊢;exact h
  | none=>
   rw[h1] at h
   simp only[cU,hop,Option.map_eq_some_iff,Prod.mk.injEq] at h⊢
   obtain⟨u,h1,rfl,_⟩:=h
   exact⟨u,h1,rfl,trivial⟩
 have hh:∀σ,hop E.ty fr σ op=none:=by
  intro σ
  cases op with
  | convert s d x=>exact absurd ⟨s,d,x,rfl⟩ hcv
  | load t x=>simp[isL] at hl
  | call c=>
   obtain⟨callee,args,ats⟩:=c
   cases callee with
   | builtin b=>cases b<;> simp[isN] at hn<;> simp[hop]
   | _=>simp[isN] at hn
  | _=>first | (simp[isN] at hn;done) | (simp[hop];done)
 unfold aop at h⊢
 cases h1:pop E.ty fr type op with
 | some u=>rw[h1] at h;simp only[Option.some.injEq,Prod.mk.injEq,and_true] at h⊢;exact h
 | none=>
  rw[h1] at h
  simp only at h⊢
  cases h2:cU E.ty fr op with
  | some u=>rw[h2] at h;simp only[Option.some.injEq,Prod.mk.injEq,and_true] at h⊢;exact h
  | none=>rw[h2] at h;simp only[hh] at h;cases h
theorem yx{fr:Fr}{σ:List aa}{type:TypeId}{op:Op}(hl:isL op=true):aop E fr σ type op=hop E.ty fr σ op:=by
 cases op<;> simp[isL] at hl
 rfl
theorem wb{σ:List aa}{x o:aa}{r:Nat}(hg:ai σ r=some o):ai (σ++[x]) r=some o:=by
 unfold ai at hg⊢
 rw[List.getElem?_append_left (List.getElem?_eq_some_iff.1 hg).1];exact hg
theorem Lj{fr:Fr}{σ:List aa}{x:aa}{type:TypeId}{op:Op}{v:AV}(hn:isN op=true)(h:aop E fr σ type op=some (v,σ)):aop E fr (σ++[x]) type op=some (v,σ++[x]):=by
 cases hl:isL op with
 | false=>exact z8 hn hl h
 | true=>
  rw[yx hl] at h⊢
  cases op with
  | load t y=>
   simp only[hop] at h⊢
   split at h
   ·split at h
    ·rename_i cs hg
     have hg':=wb (x:=x) hg
     rw[hg']
     simp only[Option.map_eq_some_iff,Prod.mk.injEq] at h⊢
     obtain⟨u,h1,h2,_⟩:=h
     exact⟨u,h1,h2,trivial⟩
    ·cases h
   ·simp only[Option.map_eq_some_iff,Prod.mk.injEq] at h⊢
    obtain⟨u,h1,h2,_⟩:=h
    exact⟨u,h1,h2,trivial⟩
   ·split at h
    ·rename_i xs hg
     have hg':=wb (x:=x) hg
     rw[hg']
     split at h
     ·rename_i hc
      simp only[if_pos hc]
      unfold tG at h⊢
      split at h
      ·simp only[Option.map_eq_some_iff,Prod.mk.injEq] at h⊢
       obtain⟨u,h1,h2,_⟩:=h
       exact⟨u,h1,h2,trivial⟩
      ·cases h
     ·cases h
    ·cases h
   ·cases h
  | _=>simp[isL] at hl
theorem R8{fr:Fr}{σ:List aa}{type:TypeId}{op:Op}{X:AV→List aa→Prop}(hn:isN op=true)(h:aP E fr σ type op X):∃v,aop E fr σ type op=some (v,σ)∧X v σ:=by
 have key:(match aop E fr σ type op with | some (v,σ')=>X v σ' | none=>False)→∃v,aop E fr σ type op=some (v,σ)∧X v σ:=by
  intro hk
  cases ha:aop E fr σ type op with
  | none=>rw[ha] at hk;exact hk.elim
  | some q=>
   obtain⟨v,σ'⟩:=q
   rw[ha] at hk
   have e:=Mt hn ha
   exact⟨v,by rw[e],by rw[← e];exact hk⟩
 cases op with
 | call c=>
  obtain⟨callee,args,ats⟩:=c
  cases callee with
  | builtin b=>exact key h
  | _=>simp[isN] at hn
 | next it b=>simp[isN] at hn
 | binOp bo t x y u=>
  have hy:dn y=false:=by simpa[isN] using hn
  simp only[aP,hy] at h
  exact key h
 | _=>exact key h
theorem R3{op:Op}(h:isL op=true):fp op=false:=by cases op<;> simp[isL] at h<;> rfl
theorem Up{fr:Fr}{σ σ':List aa}{type:TypeId}{op:Op}{v:AV}(hn:fp op=true∨isN op=true)(h:nop E fr σ type op=some (v,σ')):σ'=σ:=by
 unfold nop at h
 cases hc:fp op with
 | true=>
  rw[hc] at h
  simp only[Option.map_eq_some_iff,Prod.mk.injEq] at h
  obtain⟨_,_,_,h⟩:=h;exact h.symm
 | false=>
  rw[hc] at h hn
  exact Mt (by simpa using hn) h
theorem Kz{fr:Fr}{σ σ':List aa}{type:TypeId}{op:Op}{v:AV}(hn:fp op=true∨isN op=true)(hl:isL op=false)(h:nop E fr σ type op=some (v,σ)):nop E fr σ' type op=some (v,σ'):=by
 unfold nop at h⊢
 cases hc:fp op with
 | true=>
  rw[hc] at h
  simp only[Option.map_eq_some_iff,Prod.mk.injEq] at h⊢
  obtain⟨u,h1,h2,_⟩:=h
  exact⟨u,h1,h2,trivial⟩
 | false=>
  rw[hc] at h hn
  exact z8 (by simpa using hn) hl h
theorem LD{fr:Fr}{σ:List aa}{type:TypeId}{op:Op}(hl:isL op=true):nop E fr σ type op=hop E.ty fr σ op:=by
 unfold nop;rw[R3 hl];exact yx hl
theorem KL{fr:Fr}{σ:List aa}{x:aa}{type:TypeId}{op:Op}{v:AV}(hn:fp op=true∨isN op=true)(h:nop E fr σ type op=some (v,σ)):nop E fr (σ++[x]) type op=some (v,σ++[x]):=by
 unfold nop at h⊢
 cases hc:fp op with
 | true=>
  rw[hc] at h
  simp only[Option.map_eq_some_iff,Prod.mk.injEq] at h⊢
  obtain⟨u,h1,h2,_⟩:=h
  exact⟨u,h1,h2,trivial⟩
 | false=>
  rw[hc] at h hn
  exact Lj (by simpa using hn) h
theorem nW{fr fr':Fr}{σ:List aa}{type:TypeId}(op:Op)(h:ek fr fr' op.operands.toList):nop E fr σ type op=nop E fr' σ type op:=by
 unfold nop
 rw[nS op h]
 have:ox E fr op=ox E fr' op:=by
  cases op with
  | call c=>
   obtain⟨callee,args,ats⟩:=c
   cases callee with
   | value f=>
    have h1:=h f (by simp[Op.operands,Call.operands])
    have h2:=ek.bI (xs:=args.toList) (fun z hz=>h z (by simp at hz;simp[Op.operands,Call.operands,hz]))
    simp only[ox,h1,h2]
   | _=>rfl
  | _=>rfl
 rw[this]
theorem qq{p:Nat×List Nat}{o:Oper}(h:dB p o=true):fp o.op=true∨isN o.op=true:=by
 rcases ub h with h | h
 ·exact .inr h.2
 ·exact .inl h.1
theorem UI{p:Nat×List Nat}{all:List Oper}{L:List (Nat×List Nat)}{fr:Fr}{σ:List aa}{Q:Fr→List aa→Prop}{o:Oper}(hn:dB p o=true)(ho:eA all p.1=some o)(h:evD E all (p::L) fr σ Q) :
  ∃b v rs,bK all fr o.guard=some b∧(b=true→nop E fr σ o.type o.op=some (v,σ))∧(b=false→v= .tup [])∧br E all rs L o.dst fr Q v σ:=by
 obtain⟨i,rs⟩:=p
 rw[oe,ho] at h
 rcases ub hn with⟨hc,hn⟩ | ⟨hc,hp⟩
 ·have key:iq E all rs L fr σ Q (some o)∨lH E all L fr σ Q (some o):=by
   cases hb:rs==[i] with
   | true=>rw[hb] at h;exact .inr h
   | false=>rw[hb] at h;exact .inl h
  rcases key with h | h
  ·simp only[iq] at h
   cases hw:bK all fr o.guard with
   | none=>rw[hw] at h;exact h.elim
   | some b=>
    rw[hw] at h
    cases b with
    | false=>exact⟨false,_,rs,rfl,fun h=>(by cases h),fun _=>rfl,h.2 rfl⟩
    | true=>
     obtain⟨v,h1,h2⟩:=R8 hn (h.1 rfl)
     exact⟨true,v,rs,rfl,fun _=>(by unfold nop;rw[hc];exact h1),fun h=>(by cases h),h2⟩
  ·simp only[lH] at h
   cases hw:bK all fr o.guard with
   | none=>rw[hw] at h;exact h.elim
   | some b=>
    rw[hw] at h
    cases b with
    | false=>exact⟨false,_,[],rfl,fun h=>(by cases h),fun _=>rfl,h.2 rfl⟩
    | true=>
     exfalso
     have h:=h.1 rfl
     unfold nI at h
     have:ox E fr o.op=none:=by
      cases hop:o.op with
      | call c=>
       obtain⟨callee,args,ats⟩:=c
       rw[hop] at hc
       cases callee<;> simp[fp] at hc<;> rfl
      | _=>rfl
     rw[this] at h;exact h
 ·simp only at hp
  have hb:(rs==[i])=true:=by simp[hp]
  rw[hb] at h
  simp only[nX,lH] at h
  cases hw:bK all fr o.guard with
  | none=>rw[hw] at h;exact h.elim
  | some b=>
   rw[hw] at h
   cases b with
   | false=>exact⟨false,_,[],rfl,fun h=>(by cases h),fun _=>rfl,h.2 rfl⟩
   | true=>
    have h:=h.1 rfl
    unfold nI at h
    cases hv:ox E fr o.op with
    | none=>rw[hv] at h;exact h.elim
    | some v=>
     rw[hv] at h
     exact⟨true,v,[],rfl,fun _=>(by unfold nop;rw[hc];simp only;rw[hv];rfl),fun h=>(by cases h),h⟩
theorem Mz{p:Nat×List Nat}{all:List Oper}{L:List (Nat×List Nat)}{fr:Fr}{σ:List aa}{Q:Fr→List aa→Prop}{o:Oper}(hn:dB p o=false)(hs:p.2=[p.1]→fp o.op=true)(ho:eA all p.1=some o)(h:evD E all (p::L) fr σ Q):iq E all p.2 L fr σ Q (some o):=by
 obtain⟨i,rs⟩:=p
 rw[oe,ho] at h
 cases hb:rs==[i] with
 | false=>rw[hb] at h;exact h
 | true=>
  have hc:=hs (by simpa using hb)
  simp only[dB,hc,hb,Bool.true_and,Bool.or_true] at hn
  cases hn
theorem R.UL{σ:List aa}{w:World}(h:R K σ w){b:Nat}{cs:List AV}{cc:Array Value}{T:TypeId}(hb:w.heap[b]? = some (.cells cc T (0,0)))(hv:VRs K σ.length cs cc.toList)(h1:∀c∈cc.toList,c.oneCell'=true)
  (hf:bj K σ b) (hS:∀p,K.S b p=none) (hlay:∀g cs,gx g=some cs→g≠b):R (K.setφ σ.length b) (σ++[.cells cs]) w∧∀b',b'≠b→bj K σ b'→bj (K.setφ σ.length b) (σ++[.cells cs]) b':=by
 have he:Ext σ.length K (K.setφ σ.length b):=Ext.setφ K _ _
 have hlt:∀{r o},σ[r]? = some o→r<σ.length:=fun h=>(List.getElem?_eq_some_iff.1 h).1
 have ai:∀q o',(σ++[.cells cs])[q]? = some o'→σ[q]? = some o'∨(q=σ.length∧o'= .cells cs):=fun q o' hq=>by
  rw[List.getElem?_append] at hq
  split at hq
  ·exact .inl hq
  ·cases hk:q-σ.length with
   | zero=>rw[hk] at hq;simp at hq;exact .inr ⟨by omega,hq.symm⟩
   | succ j=>rw[hk] at hq;simp at hq
 have hnew:∀b',cC (K.setφ σ.length b) σ.length (.cells cs) b'→b'=b:=fun b' hb'=>by simpa[cC,Kr.setφ] using hb'
 have hfr:∀b',b'≠b→bj K σ b'→bj (K.setφ σ.length b) (σ++[.cells cs]) b':=fun b' hne hfree q o' hq hb'=>by
  rcases ai q o' hq with g | ⟨rfl,rfl⟩
  ·exact hfree q o' g (hb'.ext (hlt g) he (h.obj q o' g))
  ·exact hne (hnew b' hb')
 refine⟨⟨fun b p v hv=>h.stab b p v hv,fun q o' hq=>?_,fun q q' o1 o2 b' h1 h2 b1 b2=>?_,fun g cs hg=>⟨(h.lay g cs hg).1,hfr g (hlay g cs hg) (h.lay g cs hg).2⟩⟩,hfr⟩
 ·rcases ai q o' hq with g | ⟨rfl,rfl⟩
  ·exact(h.obj q o' g).mono (hlt g) he (by simp) rfl fun b _=>⟨rfl,fun _=>rfl⟩
  ·exact⟨cc,T,by simp only[Kr.setφ,if_true];exact hb,hv.mono he (by simp),h1,fun p=>by simp only[Kr.setφ,if_true];exact hS p⟩
 ·rcases ai q o1 h1 with g1 | ⟨rfl,rfl⟩<;> rcases ai q' o2 h2 with g2 | ⟨rfl,rfl⟩
  ·exact h.inj q q' o1 o2 b' g1 g2 (b1.ext (hlt g1) he (h.obj q o1 g1)) (b2.ext (hlt g2) he (h.obj q' o2 g2))
  ·have:=hnew b' b2;subst this
   exact absurd (b1.ext (hlt g1) he (h.obj q o1 g1)) (hf q o1 g1)
  ·have:=hnew b' b1;subst this
   exact absurd (b2.ext (hlt g2) he (h.obj q' o2 g2)) (hf q' o2 g2)
  ·rfl
end Go.Mu
namespace Go.Mu
open Go
variable {E:Env}{ro:Option Nat}{n:Nat}
structure Ctx where
 E:Env
 M:cw E.P
 V0:Nat→Prop
 ops:Array Oper
 m:List Nat
 L:List (Nat×List Nat)
 K0:Kr
 σ0:List aa
 w0:World
 ds:List Deferred
 Q:Fr→List aa→Prop
def tj(E:Env)(ops:Array Oper)(fr:Fr)(σ:List aa)(o:Oper):Prop:=
 ∃b v,bK ops.toList fr o.guard=some b∧(b=true→nop E fr σ o.type o.op=some (v,σ))∧(b=false→v= .tup [])∧∀d,o.dst=some d→d<E.N∧fr.get d=some v
def mW(E:Env)(Sh V:Nat→Prop)(w0:World)(K:Kr)(σ:List aa)(w:World)(a:Act)(o:Oper)(b:Nat):Prop:=
 ∃d t cc T,o.dst=some d∧o.op= .alloc t∧a.tmps[d]? = some (.pointer (some ⟨b,0,none⟩))∧w.heap[b]? = some (.cells cc T (0,0))∧VRs K σ.length (E.ty t).zero.cells cc.toList∧(∀c∈cc.toList,c.oneCell'=true)∧
  bj K σ b∧(∀p,K.S b p=none)∧w0.heap.size≤b∧(∀g cs,gx g=some cs→g≠b)∧V b∧¬Sh b
structure Inv(C:Ctx)(X:Nat→Prop)(L1 L2:List (Nat×List Nat))(eb:Nat→Nat)(V:Nat→Prop)(K:Kr)(σ:List aa)(w:World)(fr:Fr)(a:Act):Prop where
 split:C.L=L1++L2
 ev:evD C.E C.ops.toList L2 fr σ C.Q
 closed:∀j o,C.ops[j]? = some o→X j→∀e∈o.after,Region.binds .any e=true→X e.on
 p1:∀p∈L1,X p.1∨∃o,C.ops[p.1]? = some o∧dB p o=true∧tj C.E C.ops fr σ o
 p2:∀p∈L2,X p.1→∃o,C.ops[p.1]? = some o∧isA C.E.ty C.E.N o=true∧mW C.E C.M.Sh V C.w0 K σ w a o (eb p.1)
 inj:∀p∈L2,∀q∈L2,X p.1→X q.1→eb p.1=eb q.1→p.1=q.1
 fsz:a.tmps.size=C.E.N
 fr:∀t v,fr.get t=some v→(∃c,a.tmps[t]? = some c∧VR K σ.length v c)∨
  (∃p∈L1,¬X p.1∧∃o,C.ops[p.1]? = some o∧o.dst=some t)∨(∃p∈L2,X p.1∧∃o,C.ops[p.1]? = some o∧o.dst=some t)
 rel:R K σ w
 own:aU C.M.Sh V K σ w
 step:aI C.V0 C.K0 C.σ0 C.w0 V K σ w
 defers:a.defers=C.ds
variable {C:Ctx}{X:Nat→Prop}{L1 L2:List (Nat×List Nat)}{eb:Nat→Nat}{V:Nat→Prop}{K:Kr}{σ:List aa}{w:World}{fr:Fr}{a:Act}
structure DOK(C:Ctx):Prop where
 E:cm C.E
 M:C.E.S C.M
 masks:vo C.m C.ops=true
 all:∀i,i<C.ops.size→∃p∈C.L,p.1=i
 prs:tW (chk C.E.ty C.E.N C.m C.ops) C.L=true
 self:∀p∈C.L,pC C.ops p=true
theorem DOK.of(hE:cm C.E)(hM:C.E.S C.M)(h:uk C.E.ty C.E.N C.ops (C.m,C.L)=true):DOK C:=by
 simp only[uk,Bool.and_eq_true] at h
 obtain⟨⟨⟨h1,h2⟩,h3⟩,h4⟩:=h
 refine⟨hE,hM,h1,fun i hi=>?_,h3,fun p hp=>List.all_eq_true.1 h4 p hp⟩
 have:=List.all_eq_true.1 h2 i (List.mem_range.2 hi)
 obtain⟨p,hp,he⟩:=List.any_eq_true.1 this
 exact⟨p,hp,by simpa using he⟩
theorem DOK.xB(h:DOK C){p:Nat×List Nat}(hp:p∈C.L){o:Oper}(ho:C.ops[p.1]? = some o):(p.2=[p.1]→fp o.op=true)∧(dB p o=true→∀d,o.dst=some d→d∉o.looksAt C.ops):=by
 have hs:=h.self p hp
 simp only[pC,ho,Bool.and_eq_true,Bool.or_eq_true,Bool.not_eq_true',beq_eq_false_iff_ne,ne_eq,List.all_eq_true,Option.mem_toList,List.contains_eq_mem,decide_eq_false_iff_not] at hs
 refine⟨fun e=>hs.1.resolve_left fun h=>h e,fun hn=>?_⟩
 rcases hs.2 with h | h
 ·rw[hn] at h;cases h
 ·exact h
structure Two(C:Ctx)(p q:Nat×List Nat)(o o':Oper):Prop where
 ne:p.1≠q.1
 back:pred C.m p.1 q.1=false
 dep:isA C.E.ty C.E.N o'=true∨dB p o=true∨pred C.m q.1 p.1=true
 dst:dB q o'=true∨isA C.E.ty C.E.N o'=true→∀d,o'.dst=some d→d∉nms C.ops o
 eff:dB q o'=true∨isA C.E.ty C.E.N o'=true∨dB p o=false∨pred C.m q.1 p.1=true∨((∀d,o'.dst=some d→d∉nms C.ops o)∧(isL o.op=true→p.1∈q.2))
 reads:dB p o=true→pred C.m q.1 p.1=true∨∀d,o.dst=some d→d∉nms C.ops o'
theorem DOK.two(h:DOK C)(hs:C.L=L1++L2){p q:Nat×List Nat}(hp:p∈L1)(hq:q∈L2){o o':Oper}(ho:C.ops[p.1]? = some o)(ho':C.ops[q.1]? = some o'):Two C p q o o':=by
 have h1:=sO (hs▸h.prs) p hp q hq
 simp only[chk,ho,ho',Bool.and_eq_true,Bool.or_eq_true,Bool.not_eq_true',bne_iff_ne,ne_eq,List.all_eq_true,Option.mem_toList,List.contains_eq_mem,decide_eq_false_iff_not,decide_eq_true_eq] at h1
 obtain⟨⟨⟨⟨⟨h1,h2⟩,h3⟩,h4⟩,h5⟩,h6⟩:=h1
 refine⟨h1,h2,by rcases h3 with(h3 | h3) | h3<;> simp[h3],fun hk d hd=>?_,?_,fun hk=>?_⟩
 ·rcases h4 with h4 | h4
  ·simp only[Bool.or_eq_false_iff] at h4
   rcases hk with hk | hk
   ·rw[h4.1] at hk;cases hk
   ·rw[h4.2] at hk;cases hk
  ·exact h4 d hd
 ·rcases h5 with(((h5 | h5) | h5) | h5) | h5
  ·exact .inl h5
  ·exact .inr (.inl h5)
  ·exact .inr (.inr (.inl h5))
  ·exact .inr (.inr (.inr (.inl h5)))
  ·refine .inr (.inr (.inr (.inr ⟨fun d hd=>h5.1 d hd,fun hl=>?_⟩)))
   rcases h5.2 with h7 | h7
   ·rw[hl] at h7;cases h7
   ·exact h7
 ·rcases h6 with(h6 | h6) | h6
  ·rw[hk] at h6;cases h6
  ·exact .inl h6
  ·exact .inr fun d hd=>h6 d hd
theorem uV{ty:Nat→TI}{N:Nat}{o:Oper}(h:isA ty N o=true):∃t d,o.op= .alloc t∧o.dst=some d∧(ty t).kd.agg.isSome=true∧d<N∧o.guard=none:=by
 unfold isA at h
 split at h
 ·rename_i t d h1 h2
  simp only[Bool.and_eq_true,decide_eq_true_eq,Option.isNone_iff_eq_none] at h
  exact⟨t,d,h1,h2,h.1.1,h.1.2,h.2⟩
 ·cases h
theorem Ad{ty:Nat→TI}{N:Nat}{p:Nat×List Nat}{o:Oper}(h:isA ty N o=true):dB p o=false:=by
 obtain⟨t,d,h1,_⟩:=uV h
 unfold dB
 rw[h1];rfl
theorem tV{o:Oper}{ops:Array Oper}{d:Nat}{v:AV}(h:d∉o.looksAt ops):∀t∈o.looksAt ops,fr.get t=(fr.put d v).get t:=fun t ht=>by
 rw[Fr.get_put,if_neg];intro e;subst e;exact h ht
theorem tj.put{o:Oper}{d:Nat}{v:AV}{E:Env}{ops:Array Oper}(h:tj E ops fr σ o)(hd:d∉nms ops o):tj E ops (fr.put d v) σ o:=by
 obtain⟨b,u,h1,h2,h3,h4⟩:=h
 have hl:=tV (fr:=fr) (v:=v) (o:=o) (ops:=ops) (d:=d) (fun hm=>hd (List.mem_append_right _ hm))
 refine⟨b,u,by rw[← jm hl];exact h1,fun hb=>by rw[← nW _ (np hl)];exact h2 hb,h3,fun e he=>?_⟩
 have hne:d≠e:=fun x=>hd (List.mem_append_left _ (by rw[he,x];simp))
 rw[Fr.get_put,if_neg hne]
 exact h4 e he
theorem oG{i:Nat}{o:Oper}{ops:Array Oper}(h:ops[i]? = some o):eA ops.toList i=some o:=by rw[BW];simpa using h
theorem Inv.P1(hD:DOK C){p:Nat×List Nat}(h:Inv C X L1 (p::L2) eb V K σ w fr a)(hp:¬X p.1){o:Oper}(ho:C.ops[p.1]? = some o)(hn:dB p o=true):∃fr',Inv C X (L1++[p]) L2 eb V K σ w fr' a:=by
 obtain⟨b,v,rs',hb,hv1,hv2,hv3⟩:=UI hn (oG ho) h.ev
 obtain⟨i,rs⟩:=p
 have hself:=(hD.xB (by rw[h.split];simp) ho).2 hn
 ·
  cases hd:o.dst with
  | none=>
   rw[hd] at hv3
   refine⟨fr,⟨by rw[h.split];simp,hv3.2,h.closed,fun q hq=>?_,fun q hq=>h.p2 q (by simp[hq]),fun q hq q' hq'=>h.inj q (by simp[hq]) q' (by simp[hq']),h.fsz,fun t u hu=>?_,h.rel,h.own,h.step,h.defers⟩⟩
   ·rcases List.mem_append.1 hq with hq | hq
    ·exact h.p1 q hq
    ·simp at hq;subst hq
     exact .inr ⟨o,ho,hn,b,v,hb,hv1,hv2,fun d hd'=>by rw[hd] at hd';cases hd'⟩
   ·rcases h.fr t u hu with h1 | ⟨q,h1,h2⟩ | ⟨q,h1,h2,h3⟩
    ·exact .inl h1
    ·exact .inr (.inl ⟨q,by simp[h1],h2⟩)
    ·rcases List.mem_cons.1 h1 with rfl | h1
     ·exact absurd h2 hp
     ·exact .inr (.inr ⟨q,h1,h2,h3⟩)
  | some d=>
   rw[hd] at hv3
   have hl:=tV (fr:=fr) (v:=v) (o:=o) (ops:=C.ops) (d:=d) (fun hm=>hself d hd hm)
   refine⟨fr.put d v,⟨by rw[h.split];simp,hv3.2.2,h.closed,fun q hq=>?_,fun q hq=>h.p2 q (by simp[hq]),fun q hq q' hq'=>h.inj q (by simp[hq]) q' (by simp[hq']),h.fsz,fun t u hu=>?_,h.rel,h.own,h.step,h.defers⟩⟩
   ·rcases List.mem_append.1 hq with hq | hq
    ·rcases h.p1 q hq with h1 | ⟨oq,h1,h2,h3⟩
     ·exact .inl h1
     ·exact .inr ⟨oq,h1,h2,h3.put ((hD.two h.split hq (q:=(i,rs)) (by simp) h1 ho).dst (.inl hn) d hd)⟩
    ·simp at hq;subst hq
     refine .inr ⟨o,ho,hn,b,v,by rw[← jm hl];exact hb,fun e=>by rw[← nW _ (np hl)];exact hv1 e,hv2,fun d' hd'=>?_⟩
     rw[hd] at hd';simp at hd';subst hd'
     exact⟨hv3.1,by rw[Fr.get_put,if_pos rfl]⟩
   ·rw[Fr.get_put] at hu
    by_cases e:d=t
    ·subst e
     exact .inr (.inl ⟨(i,rs),by simp,hp,o,ho,hd⟩)
    ·rw[if_neg e] at hu
     rcases h.fr t u hu with h1 | ⟨q,h1,h2⟩ | ⟨q,h1,h2,h3⟩
     ·exact .inl h1
     ·exact .inr (.inl ⟨q,by simp[h1],h2⟩)
     ·rcases List.mem_cons.1 h1 with rfl | h1
      ·exact absurd h2 hp
      ·exact .inr (.inr ⟨q,h1,h2,h3⟩)
theorem mW.mono{E:Env}{Sh V V':Nat→Prop}(hVV:∀b,V b→V' b){w0 w w':World}{K K':Kr}{σ σ':List aa}{a a':Act}{o:Oper}{b:Nat}(h:mW E Sh V w0 K σ w a o b)(he:Ext σ.length K K')(hn:σ.length≤σ'.length)(hh:w'.heap[b]? = w.heap[b]?)(hf:bj K σ b→bj K' σ' b)(hS:∀p,K'.S b p=K.S b p)
  (ha:∀d,o.dst=some d→a'.tmps[d]? = a.tmps[d]?):mW E Sh V' w0 K' σ' w' a' o b:=by
 obtain⟨d,t,cc,T,h1,h2,h3,h4,h5,h6,h7,h8,h9⟩:=h
 exact⟨d,t,cc,T,h1,h2,by rw[ha d h1];exact h3,by rw[hh];exact h4,h5.mono he hn,h6,hf h7,fun p=>by rw[hS];exact h8 p,h9.1,h9.2.1,hVV _ h9.2.2.1,h9.2.2.2⟩
theorem Inv.VG(hD:DOK C){p:Nat×List Nat}(h:Inv C X L1 (p::L2) eb V K σ w fr a)(hp:X p.1):∃K' σ' fr',Inv C X (L1++[p]) L2 eb V K' σ' w fr' a:=by
 obtain⟨o,ho,hA,he⟩:=h.p2 p (by simp) hp
 have hev:=Mz (Ad hA) (hD.xB (by rw[h.split];simp) ho).1 (oG ho) h.ev
 obtain⟨i,rs⟩:=p
 obtain⟨t0,d0,g1,g2,g3,g4,g5⟩:=uV hA
 simp only[iq,g5,bK,g1,g2] at hev
 have hev:=hev.1 trivial
 have e1:aP C.E fr σ o.type (.alloc t0) (br C.E C.ops.toList rs L2 (some d0) fr C.Q)=dD (br C.E C.ops.toList rs L2 (some d0) fr C.Q) (hop C.E.ty fr σ (.alloc t0)):=sH
 rw[e1] at hev
 simp only[hop,g3,if_true,dD] at hev
 obtain⟨d,t,cc,T,h1,h2,h3,h4,h5,h6,h7,h8,h9⟩:=he
 rw[g2] at h1;simp at h1;subst h1
 rw[g1] at h2;simp at h2;subst h2
 obtain⟨r1,r2⟩:=h.rel.UL h4 h5 h6 h7 h8 h9.2.1
 have hext:Ext σ.length K (K.setφ σ.length (eb i)):=Ext.setφ K _ _
 obtain⟨hv1,_,hv3⟩:=hev
 refine⟨_,_,fr.put d0 (.ptr σ.length 0),⟨by rw[h.split];simp,hv3,h.closed,fun q hq=>?_,fun q hq hx=>?_,fun q hq q' hq'=>h.inj q (by simp[hq]) q' (by simp[hq']),h.fsz,fun t u hu=>?_,r1,?_,?_,h.defers⟩⟩
 ·rcases List.mem_append.1 hq with hq | hq
  ·rcases h.p1 q hq with k1 | ⟨oq,k1,k2,k3⟩
   ·exact .inl k1
   ·have k4:=k3.put (d:=d0) (v:= .ptr σ.length 0) ((hD.two h.split hq (q:=(i,rs)) (by simp) k1 ho).dst (.inr hA) d0 g2)
    obtain⟨b,u,l1,l2,l3,l4⟩:=k4
    exact .inr ⟨oq,k1,k2,b,u,l1,fun hb=>KL (qq k2) (l2 hb),l3,l4⟩
  ·simp at hq;subst hq;exact .inl hp
 ·obtain⟨oq,k1,k2,k3⟩:=h.p2 q (by simp[hq]) hx
  refine⟨oq,k1,k2,k3.mono (fun _ h=>h) hext (by simp) rfl (r2 _ fun e=>?_) (fun _=>rfl) (fun _ _=>rfl)⟩
  have:=h.inj q (by simp[hq]) (i,rs) (by simp) hx hp e
  have hs:C.L=(L1++[(i,rs)])++L2:=by rw[h.split];simp
  exact(hD.two hs (p:=(i,rs)) (by simp) hq ho k1).ne this.symm
 ·rw[Fr.get_put] at hu
  by_cases e:d0=t
  ·subst e
   rw[if_pos rfl] at hu;simp at hu;subst hu
   refine .inl ⟨_,h3,?_⟩
   have:=VR.ptr (K:=K.setφ σ.length (eb i)) (n:=(σ++[aa.cells (C.E.ty t0).zero.cells]).length) σ.length 0 (by simp)
   simpa[Kr.setφ] using this
  ·rw[if_neg e] at hu
   rcases h.fr t u hu with⟨c,k1,k2⟩ | ⟨q,k1,k2⟩ | ⟨q,k1,k2,oq,k3,k4⟩
   ·exact .inl ⟨c,k1,k2.mono hext (by simp)⟩
   ·exact .inr (.inl ⟨q,by simp[k1],k2⟩)
   ·rcases List.mem_cons.1 k1 with rfl | k1
    ·rw[ho] at k3;simp at k3;subst k3
     rw[g2] at k4;simp at k4;exact absurd k4 e
    ·exact .inr (.inr ⟨q,k1,k2,oq,k3,k4⟩)
 ·refine⟨fun b hb=>?_,fun b o v hv=>h.own.stab b o v hv,h.own.lay,h.own.sh⟩
  by_cases e:b=eb i
  ·subst e;exact h9.2.2
  ·exact h.own.obj b fun hf=>hb (r2 b e hf)
 ·have hs:=h.step
  refine⟨hs.ext.trans hext hs.len,by have:=hs.len;simp;omega,hs.size,fun b hb hv hf=>?_,hs.sub,hs.new,hs.os,hs.tape,hs.output⟩
  obtain⟨m1,m2,m3⟩:=hs.keep b hb hv hf
  exact⟨m1,r2 b (by omega) m2,m3⟩
theorem Inv.Nd(hD:DOK C){M:List (Nat×List Nat)}:∀{L1 L2:List (Nat×List Nat)} {K:Kr} {σ:List aa} {fr:Fr},Inv C X L1 (M++L2) eb V K σ w fr a→(∀p∈M,X p.1∨∃o,C.ops[p.1]? = some o∧dB p o=true)→∃K' σ' fr',Inv C X (L1++M) L2 eb V K' σ' w fr' a:=by
 induction M with
 | nil=>intro L1 L2 K σ fr h _;exact⟨K,σ,fr,by simpa using h⟩
 | cons p M ih=>
  intro L1 L2 K σ fr h hM
  have hstep:∃K' σ' fr',Inv C X (L1++[p]) (M++L2) eb V K' σ' w fr' a:=by
   by_cases hx:X p.1
   ·exact h.VG hD hx
   ·rcases hM p (by simp) with h1 | ⟨o,h1,h2⟩
    ·exact absurd h1 hx
    ·obtain⟨fr',h3⟩:=h.P1 hD hx h1 h2
     exact⟨K,σ,fr',h3⟩
  obtain⟨K1,σ1,fr1,h1⟩:=hstep
  obtain⟨K2,σ2,fr2,h2⟩:=ih h1 (fun q hq=>hM q (by simp[hq]))
  exact⟨K2,σ2,fr2,by simpa using h2⟩
end Go.Mu
namespace Go.Mu
open Go
variable {ro:Option Nat}{n:Nat}
variable {C:Ctx}{X:Nat→Prop}{L1 L2:List (Nat×List Nat)}{eb:Nat→Nat}{V:Nat→Prop}{K:Kr}{σ:List aa}{w:World}{fr:Fr}{a:Act}
theorem yf{α:Type}{L:List α}{p q:α}(hp:p∈L)(hq:q∈L):q=p∨(∃A B,L=A++B∧q∈A∧p∈B)∨(∃A B,L=A++B∧p∈A∧q∈B):=by
 obtain⟨A,B,rfl⟩:=List.append_of_mem hp
 rcases List.mem_append.1 hq with h | h
 ·exact .inr (.inl ⟨A,p::B,rfl,h,by simp⟩)
 ·rcases List.mem_cons.1 h with h | h
  ·exact .inl h
  ·exact .inr (.inr ⟨A++[p],B,by simp,by simp,h⟩)
theorem m9{a:Act}{d:Option Tmp}{c:Value}{t:Nat}(h:d≠some t):(a.put d c).tmps[t]? = a.tmps[t]? :=by
 cases d with
 | none=>rfl
 | some d=>
  have hne:d≠t:=fun e=>h (by rw[e])
  simp[Act.put,Array.getElem?_setIfInBounds_ne hne]
theorem rW{a:Act}{d:Option Tmp}{c:Value}:(a.put d c).tmps.size=a.tmps.size:=by
 cases d with
 | none=>rfl
 | some d=>simp[Act.put]
theorem Inv.looks(hD:DOK C)(h:Inv C X L1 L2 eb V K σ w fr a){p:Nat×List Nat}(hp:p∈C.L)(hx:¬X p.1){o:Oper}(ho:C.ops[p.1]? = some o)(hr:∀e∈o.after,Region.binds .any e=true→X e.on)
  (hpos:∀q∈L2,X q.1→∃A B,C.L=A++B∧p∈A∧q∈B) (hself:dB p o=true→∀d,o.dst=some d→d∉o.looksAt C.ops) (hnp:dB p o=false→∀q∈L1,q≠p):FR K σ.length C.E.N (fr.only (o.looksAt C.ops)) a.tmps:=by
 refine⟨h.fsz,fun t v hv=>?_⟩
 rw[Fr.zW] at hv
 split at hv
 ·rename_i ht
  have ht:t∈o.looksAt C.ops:=by simpa using ht
  rcases h.fr t v hv with h1 | ⟨q,hq,hxq,oq,hoq,hdq⟩ | ⟨q,hq,hxq,oq,hoq,hdq⟩
  ·exact h1
  ·exfalso
   have hqN:dB q oq=true:=by
    rcases h.p1 q hq with k | ⟨o',k1,k2,_⟩
    ·exact absurd k hxq
    ·rw[hoq] at k1;simp at k1;subst k1;exact k2
   have hqL:q∈C.L:=by rw[h.split];simp[hq]
   rcases yf hp hqL with e | ⟨A,B,hs,hqA,hpB⟩ | ⟨A,B,hs,hpA,hqB⟩
   ·subst e
    rw[ho] at hoq;simp at hoq;subst hoq
    exact hself hqN t hdq ht
   ·rcases(hD.two hs hqA hpB hoq ho).reads hqN with k | k
    ·exact hxq (vx hD.masks h.closed q.1 p.1 o ho hr k)
    ·exact k t hdq (List.mem_append_right _ ht)
   ·exact(hD.two hs hpA hqB ho hoq).dst (.inl hqN) t hdq (List.mem_append_right _ ht)
  ·exfalso
   obtain⟨o',k1,k2,_⟩:=h.p2 q hq hxq
   rw[hoq] at k1;simp at k1;subst k1
   obtain⟨A,B,hs,hpA,hqB⟩:=hpos q hq hxq
   exact(hD.two hs hpA hqB ho hoq).dst (.inr k2) t hdq (List.mem_append_right _ ht)
 ·cases hv
theorem mw{o:Oper}{ops:Array Oper}:∀t∈o.looksAt ops,fr.get t=(fr.only (o.looksAt ops)).get t:=fun t ht=>by
 rw[Fr.zW,if_pos (by simpa using ht)]
theorem I6{E:Env}{type:TypeId}{op:Op}{v:AV}{σ':List aa}{Y:AV→List aa→Prop}(hn:isN op=true)(h:aop E fr σ type op=some (v,σ'))(hY:Y v σ'):aP E fr σ type op Y:=by
 have key:(match aop E fr σ type op with | some (v,σ')=>Y v σ' | none=>False):=by rw[h];exact hY
 cases op with
 | call c=>
  obtain⟨callee,args,ats⟩:=c
  cases callee with
  | builtin b=>exact key
  | _=>simp[isN] at hn
 | next it b=>simp[isN] at hn
 | binOp bo t x y u=>
  have hy:dn y=false:=by simpa[isN] using hn
  simp only[aP,hy]
  exact key
 | _=>exact key
theorem Inv.early(hD:DOK C)(h:Inv C X L1 L2 eb V K σ w fr a){V':Nat→Prop}{K':Kr}{σ':List aa}{w':World}(hS:aI V K σ w V' K' σ' w'){p q:Nat×List Nat}{o:Oper}(ho:C.ops[p.1]? = some o)(hq:q∈L2)(hx:X q.1)
  (hpos:∃A B,C.L=A++B∧p∈A∧q∈B) {c:Value}:∃oq,C.ops[q.1]? = some oq∧isA C.E.ty C.E.N oq=true∧mW C.E C.M.Sh V' C.w0 K' σ' w' (a.put o.dst c) oq (eb q.1):=by
 obtain⟨oq,k1,k2,k3⟩:=h.p2 q hq hx
 obtain⟨A,B,hs,hpA,hqB⟩:=hpos
 have h2:=hD.two hs hpA hqB ho k1
 have hb:eb q.1<w.heap.size:=by obtain⟨d,t,cc,T,h1,h2,h3,h4,_⟩:=k3;exact bJ h4
 have hfree:bj K σ (eb q.1):=by obtain⟨d,t,cc,T,h1,h2,h3,h4,_,_,h7,_⟩:=k3;exact h7
 have hvb:V (eb q.1):=by obtain⟨d,t,cc,T,h1,h2,h3,h4,_,_,_,_,_,_,h9,_⟩:=k3;exact h9
 obtain⟨m1,m2,m3⟩:=hS.keep _ hb hvb hfree
 refine⟨oq,k1,k2,k3.mono hS.sub hS.ext hS.len m1 (fun _=>m2) m3 fun d hd=>m9 fun e=>?_⟩
 exact h2.dst (.inr k2) d hd (List.mem_append_left _ (by rw[e];simp))
theorem DX{E:Env}{type:TypeId}{op:Op}{v:AV}{σ':List aa}{Y:AV→List aa→Prop}(hn:fp op=true∨isN op=true)(h:nop E fr σ type op=some (v,σ'))(hY:Y v σ'):aP E fr σ type op Y:=by
 unfold nop at h
 cases hc:fp op with
 | false=>rw[hc] at h hn;exact I6 (by simpa using hn) h hY
 | true=>
  rw[hc] at h
  simp only[Option.map_eq_some_iff,Prod.mk.injEq] at h
  obtain⟨u,h1,rfl,rfl⟩:=h
  cases op with
  | call c=>
   obtain⟨callee,args,ats⟩:=c
   cases callee with
   | value f=>
    simp only[ox] at h1
    simp only[aP]
    unfold xr at h1
    split at h1
    ·rename_i g p q as e1 e2
     rw[e1,e2]
     simp only[fb,h1]
     exact hY
    ·cases h1
   | _=>simp[fp] at hc
  | _=>simp[fp] at hc
theorem Inv.Ny(hD:DOK C)(h:Inv C X L1 L2 eb V K σ w fr a){p:Nat×List Nat}(hp:p∈L1)(hx:¬X p.1){o:Oper}(ho:C.ops[p.1]? = some o)(hr:∀e∈o.after,Region.binds .any e=true→X e.on)
  {KK:Act→World→(Nat→Prop)→Prop} (hk:∀K' w' V' a',Inv C (fun j=>X j∨j=p.1) L1 L2 eb V' K' σ w' fr a'→KK a' w' V'):e7 C.M C.ops p.1 KK a w V:=by
 obtain⟨o',k1,hn,b,v,hb,hv1,hv2,hv3⟩:=(h.p1 p hp).resolve_left hx
 rw[ho] at k1;simp at k1;subst k1
 have hpL:p∈C.L:=by rw[h.split];simp[hp]
 have hself:=hD.self p hpL
 replace hself:=(hD.xB hpL ho).2 hn
 have hpos:∀q∈L2,∃A B,C.L=A++B∧p∈A∧q∈B:=fun q hq=>⟨L1,L2,h.split,hp,hq⟩
 have hF:=h.looks hD hpL hx ho hr (fun q hq _=>hpos q hq) (fun _=>hself) (fun e=>by rw[hn] at e;cases e)
 have hne:∀q∈L2,p.1≠q.1:=fun q hq e=>by
  have hq':C.ops[q.1]? = some o:=by rw[← e];exact ho
  exact(hD.two h.split hp hq ho hq').ne e
 have hfin:∀K' w' V' c,R K' σ w'→aU C.M.Sh V' K' σ w'→VR K' σ.length v c→aI V K σ w V' K' σ w'→KK (a.put o.dst c) w' V':=by
  intro K' w' V' c g1 g1' g2 g3
  refine hk K' w' V' _ ⟨h.split,h.ev,fun j oj hj hX e he hbd=>?_,fun q hq=>?_,fun q hq hX=>?_,fun q hq q' hq' h1 h2=>?_,?_,fun t u hu=>?_,g1,g1',h.step.trans g3,?_⟩
  ·rcases hX with hX | rfl
   ·exact .inl (h.closed j oj hj hX e he hbd)
   ·rw[ho] at hj;simp at hj;subst hj;exact .inl (hr e he hbd)
  ·rcases h.p1 q hq with m | m
   ·exact .inl (.inl m)
   ·exact .inr m
  ·have hX':X q.1:=hX.resolve_right fun e=>hne q hq e.symm
   exact h.early hD g3 ho hq hX' (hpos q hq)
  ·exact h.inj q hq q' hq' (h1.resolve_right fun e=>hne q hq e.symm) (h2.resolve_right fun e=>hne q' hq' e.symm)
  ·rw[rW];exact h.fsz
  ·by_cases e:o.dst=some t
   ·obtain⟨m1,m2⟩:=hv3 t e
    rw[m2] at hu;simp at hu;subst hu
    refine .inl ⟨c,?_,g2⟩
    rw[e];simp[Act.put,h.fsz,m1]
   ·rcases h.fr t u hu with⟨c',m1,m2⟩ | ⟨q,m1,m2,oq,m3,m4⟩ | ⟨q,m1,m2,m3⟩
    ·exact .inl ⟨c',by rw[m9 e];exact m1,m2.mono g3.ext g3.len⟩
    ·refine .inr (.inl ⟨q,m1,fun hX=>?_,oq,m3,m4⟩)
     rcases hX with hX | hX
     ·exact m2 hX
     ·rw[hX,ho] at m3;simp at m3;subst m3;exact e m4
    ·exact .inr (.inr ⟨q,m1,.inl m2,m3⟩)
  ·rw[put_defers];exact h.defers
 have hb':bK C.ops.toList (fr.only (o.looksAt C.ops)) o.guard=some b:=by rw[← jm mw];exact hb
 have hw:=gk hF hb'
 cases b with
 | false=>
  have:=hv2 rfl;subst this
  exact .unwanted ho hw fun w₁ hr=>hfin K w₁ V undef (h.rel.rely h.own hr) (h.own.rely hr) fK (.bN hr)
 | true=>
  have hv:=hv1 rfl
  rw[nW _ (np (mw (ops:=C.ops)))] at hv
  refine kx hD.E hD.M ho hw (DX (qq hn) (Y:=fun v' σ'=>v'=v∧σ'=σ) hv ⟨rfl,rfl⟩) h.rel h.own hF ?_
  rintro K' σ' w' V' v' c ⟨rfl,rfl⟩ g1 g1' g2 g3
  exact hfin K' w' V' c g1 g1' g2 g3
theorem Inv.UB(hD:DOK C)(h:Inv C X L1 L2 eb V K σ w fr a){p:Nat×List Nat}(hp:p∈L2)(hx:¬X p.1){o:Oper}(ho:C.ops[p.1]? = some o)(hA:isA C.E.ty C.E.N o=true)(hr:∀e∈o.after,Region.binds .any e=true→X e.on)
  {KK:Act→World→(Nat→Prop)→Prop} (hk:∀eb' w' V' a',Inv C (fun j=>X j∨j=p.1) L1 L2 eb' V' K σ w' fr a'→KK a' w' V'):e7 C.M C.ops p.1 KK a w V:=by
 obtain⟨t0,d0,g1,g2,g3,g4,g5⟩:=uV hA
 have hk':=aT g3
 obtain⟨z,hz,hzr⟩:=fl (K:=K) (n:=σ.length) hD.E.ty hk'
 obtain⟨c1,c2⟩:=hz.cells (gN hD.E.ty hk')
 have hpL:p∈C.L:=by rw[h.split];simp[hp]
 have hrun:∀w₁:World,(execOp a.eval o).run C.E.P w₁= .ok (.value (.pointer (some ⟨w₁.heap.size,0,none⟩))) (w₁.alloc (.cells z.cells t0 (0,0))):=fun w₁=>by
  simp only[execOp,g1,Instr.alloc,Sem.run_bind,hzr w₁,Result.andThen_ok,newVar,newRow]
  rfl
 have hold:∀q∈L2,X q.1→eb q.1<w.heap.size:=fun q hq hX=>by
  obtain⟨oq,k1,k2,d,t,cc,T,k3,k4,k5,k6,_⟩:=h.p2 q hq hX
  exact bJ k6
 have hfin:∀w₁,Rel V w w₁→R K σ (w₁.alloc (.cells z.cells t0 (0,0)))→aU C.M.Sh (ct V w₁.heap.size (w₁.alloc (.cells z.cells t0 (0,0))).heap.size) K σ (w₁.alloc (.cells z.cells t0 (0,0)))→Step K σ w₁ K σ (w₁.alloc (.cells z.cells t0 (0,0)))→
   KK (a.put o.dst (.pointer (some ⟨w₁.heap.size,0,none⟩))) (w₁.alloc (.cells z.cells t0 (0,0))) (ct V w₁.heap.size (w₁.alloc (.cells z.cells t0 (0,0))).heap.size):=by
  intro w₁ hre r1 r1' r2
  have hR1:=h.rel.rely h.own hre
  have hsz1:(w₁.alloc (.cells z.cells t0 (0,0))).heap.size=w₁.heap.size+1:=fc _ _
  have r3:aI V K σ w (ct V w₁.heap.size (w₁.alloc (.cells z.cells t0 (0,0))).heap.size) K σ (w₁.alloc (.cells z.cells t0 (0,0))):=(aI.bN hre).trans (.mY r2)
  refine hk (fun j=>if j=p.1 then w₁.heap.size else eb j) _ _ _ ⟨h.split,h.ev,fun j oj hj hX e he hbd=>?_,fun q hq=>?_,fun q hq hX=>?_,fun q hq q' hq' h1 h2=>?_,?_,fun t u hu=>?_,r1,r1',h.step.trans r3,?_⟩
  ·rcases hX with hX | rfl
   ·exact .inl (h.closed j oj hj hX e he hbd)
   ·rw[ho] at hj;simp at hj;subst hj;exact .inl (hr e he hbd)
  ·rcases h.p1 q hq with m | m
   ·exact .inl (.inl m)
   ·exact .inr m
  ·by_cases e:q.1=p.1
   ·rw[e,if_pos rfl]
    refine⟨o,ho,hA,d0,t0,z.cells,t0,g2,g1,?_,heap_alloc_new w₁ _,c1,c2,fun r o hr hb=>?_,fun pp=>?_,Nat.le_trans h.step.size hre.size,fun g cs hg e=>?_,.inr ⟨Nat.le_refl _,by rw[hsz1];omega⟩,fun hs=>?_⟩
    ·rw[g2];simp[Act.put,h.fsz,g4]
    ·exact absurd ((hR1.obj r o hr).gF hb) (by omega)
    ·cases hkk:K.S w₁.heap.size pp with
     | none=>rfl
     | some v=>have:=hR1.lt hkk;omega
    ·have:=bJ (hR1.lay g cs hg).1.choose_spec.choose_spec;omega
    ·have:=h.own.sh _ hs;have:=hre.size;omega
   ·rw[if_neg e]
    have hX':X q.1:=hX.resolve_right e
    obtain⟨oq,k1,k2,k3⟩:=h.p2 q hq hX'
    have hb:=hold q hq hX'
    have hfree:bj K σ (eb q.1):=by obtain⟨d,t,cc,T,h1,h2,h3,h4,_,_,h7,_⟩:=k3;exact h7
    have hvb:V (eb q.1):=by obtain⟨d,t,cc,T,h1,h2,h3,h4,_,_,_,_,_,_,h9,_⟩:=k3;exact h9
    obtain⟨m1,m2,m3⟩:=r3.keep _ hb hvb hfree
    refine⟨oq,k1,k2,k3.mono r3.sub r3.ext r3.len m1 (fun _=>m2) m3 fun d hd=>m9 fun e'=>?_⟩
    have hqL:q∈C.L:=by rw[h.split];simp[hq]
    rcases yf hpL hqL with e2 | ⟨A,B,hs,hqA,hpB⟩ | ⟨A,B,hs,hpA,hqB⟩
    ·exact e (by rw[e2])
    ·exact(hD.two hs hqA hpB k1 ho).dst (.inr hA) d e' (List.mem_append_left _ (by rw[hd];simp))
    ·exact(hD.two hs hpA hqB ho k1).dst (.inr k2) d hd (List.mem_append_left _ (by rw[e'];simp))
  ·by_cases e:q.1=p.1<;> by_cases e':q'.1=p.1
   ·intro _;rw[e,e']
   ·have:=hold q' hq' (h2.resolve_right e');have:=hre.size
    rw[if_pos e,if_neg e'];intro e3;omega
   ·have:=hold q hq (h1.resolve_right e);have:=hre.size
    rw[if_neg e,if_pos e'];intro e3;omega
   ·rw[if_neg e,if_neg e'];exact h.inj q hq q' hq' (h1.resolve_right e) (h2.resolve_right e')
  ·rw[rW];exact h.fsz
  ·by_cases e:o.dst=some t
   ·exact .inr (.inr ⟨p,hp,.inr rfl,o,ho,e⟩)
   ·rcases h.fr t u hu with⟨c',m1,m2⟩ | ⟨q,m1,m2,oq,m3,m4⟩ | ⟨q,m1,m2,m3⟩
    ·exact .inl ⟨c',by rw[m9 e];exact m1,m2⟩
    ·refine .inr (.inl ⟨q,m1,fun hX=>?_,oq,m3,m4⟩)
     rcases hX with hX | hX
     ·exact m2 hX
     ·rw[hX,ho] at m3;simp at m3;subst m3;exact e m4
    ·exact .inr (.inr ⟨q,m1,.inl m2,m3⟩)
  ·rw[put_defers];exact h.defers
 intro b rest k cs au hp
 refine MM (X:=fun c K' σ' w₁ w'=>K'=K∧σ'=σ∧w'=w₁.alloc (.cells z.cells t0 (0,0))∧c= .pointer (some ⟨w₁.heap.size,0,none⟩)∧Step K σ w₁ K σ (w₁.alloc (.cells z.cells t0 (0,0)))) h.rel h.own ho (by unfold Region.wanted;rw[g5]) (by rw[g1];intro c hc;cases hc) ?_ (fun w₁ hR1=>?_) ?_
 ·obtain⟨dst,op,type,pos,after,guard⟩:=o
  simp only at g1;subst g1
  exact bL yQ
 ·obtain⟨r1,r2⟩:=hR1.KO (.cells z.cells t0 (0,0)) K (.refl _ _) rfl (fun b p v hv=> .inl hv)
  exact⟨_,K,σ,_,.inl (hrun w₁),r1,r2,rfl,rfl,rfl,rfl,r2⟩
 ·rintro c K' σ' w₁ w' hr r1 r1' r3 ⟨rfl,rfl,rfl,rfl,r2⟩
  exact hp _ _ _ (hfin w₁ hr r1 r1' r2)
end Go.Mu
