/- A frame's run told from wherever it has come: piece by piece, to whatever end. -/
import Derived.Test.YtgbdndlmdklefaaGreatHK09
import Derived.Test.YtgbdndlmdklefaaGreatHK06
import Derived.Conc.CrowdComm
import Derived.Conc.Beside
set_option linter.unusedSimpArgs false
set_option linter.unusedVariables false
namespace Go.Mu
open Go Go.Conc
def JK(E:Env)(M:cw E.P)(b:Frame)(cs:List Frame)(ds:List Deferred)(T:List (Nat×Value))(V0:Nat→Prop)(K0:Kr)(σ0:List aa)(w0:World)(au:Goroutine→World→(Nat→Prop)→Prop)(todo:List Item)(fr:Fr)(σ:List aa):Prop:=
 ∀(K:Kr) (w:World) (V:Nat→Prop) (a:Act),R K σ w→aU M.Sh V K σ w→FR K σ.length E.N fr a.tmps→aI V0 K0 σ0 w0 V K σ w→a.defers=ds→(∀p∈T,a.tmps[p.1]? = some p.2)→M.J (G (b.atR a todo) cs) w V au
section
variable {E:Env}{M:cw E.P}{b:Frame}{cs:List Frame}{ds:List Deferred}{T:List (Nat×Value)}{V0:Nat→Prop}{K0:Kr}{σ0:List aa}{w0:World}{au:Goroutine→World→(Nat→Prop)→Prop}{fr:Fr}{σ:List aa}{k:List Item}
theorem JK.step{todo todo':List Item}(h:JK E M b cs ds T V0 K0 σ0 w0 au todo' fr σ)
  (hs:∀(a:Act) (w:World) K,R K σ w→FR K σ.length E.N fr a.tmps→stepG E.P M.main (G (b.atR a todo) cs) w= .go (G (b.atR a todo') cs) w):JK E M b cs ds T V0 K0 σ0 w0 au todo fr σ:=by
 intro K w V a hR hO hF hS hd hT
 refine M.step rfl fun w₁ hr=>⟨_,_,_,hs a w₁ K (hR.rely hO hr) hF,.idle _ _ _,?_⟩
 rw[bk]
 exact h K w₁ V a (hR.rely hO hr) (hO.rely hr) hF (hS.trans (.bN hr)) hd hT
theorem JK.skip(h:JK E M b cs ds T V0 K0 σ0 w0 au k fr σ):JK E M b cs ds T V0 K0 σ0 w0 au (.code .skip::k) fr σ:=h.step fun _ _ _ _ _=>by simp[G,stepG,stepG.exec,Frame.atR]
theorem JK.inBlock{l:Nat}(h:JK E M b cs ds T V0 K0 σ0 w0 au k fr σ):JK E M b cs ds T V0 K0 σ0 w0 au (.inBlock l::k) fr σ:=h.step fun _ _ _ _ _=>by simp[G,stepG,stepG.exec,Frame.atR]
theorem JK.seq{x y:Code}(h:JK E M b cs ds T V0 K0 σ0 w0 au (.code x:: .code y::k) fr σ):JK E M b cs ds T V0 K0 σ0 w0 au (.code (.seq x y)::k) fr σ:=h.step fun _ _ _ _ _=>by simp[G,stepG,stepG.exec,Frame.atR]
theorem JK.block{id:Nat}{c:Code}(h:JK E M b cs ds T V0 K0 σ0 w0 au (.code c:: .inBlock id::k) fr σ):JK E M b cs ds T V0 K0 σ0 w0 au (.code (.block id c)::k) fr σ:=h.step fun _ _ _ _ _=>by simp[G,stepG,stepG.exec,Frame.atR]
theorem JK.loop{c:Code}(h:JK E M b cs ds T V0 K0 σ0 w0 au (.code c:: .inLoop c::k) fr σ):JK E M b cs ds T V0 K0 σ0 w0 au (.code (.loop c)::k) fr σ:=h.step fun _ _ _ _ _=>by simp[G,stepG,stepG.exec,Frame.atR]
theorem JK.inLoop{c:Code}(h:JK E M b cs ds T V0 K0 σ0 w0 au (.code c:: .inLoop c::k) fr σ):JK E M b cs ds T V0 K0 σ0 w0 au (.inLoop c::k) fr σ:=h.step fun _ _ _ _ _=>by simp[G,stepG,stepG.exec,Frame.atR]
theorem JK.exit{id:Nat}{k':List Item}(hk:exitTo id k=some k')(h:JK E M b cs ds T V0 K0 σ0 w0 au k' fr σ):JK E M b cs ds T V0 K0 σ0 w0 au (.code (.exit id)::k) fr σ:=h.step fun _ _ _ _ _=>by simp[G,stepG,stepG.exec,Frame.atR,hk]
theorem JK.cond{c:Operand}{x y:Code}{t:Bool}(hc:aH fr c=some (.bool t))(h:JK E M b cs ds T V0 K0 σ0 w0 au (.code (if t then x else y)::k) fr σ):JK E M b cs ds T V0 K0 σ0 w0 au (.code (.cond c x y)::k) fr σ:=
 h.step fun a w _ _ hF=>by
  have hv:=(ak hF hc).dX
  have:=congrFun (Frame.eval_atR b a (.code (.cond c x y)::k)) c
  simp only[Frame.atR] at this
  simp[G,stepG,stepG.exec,Frame.atR,this,hv]
theorem JK.enter{id:Nat}{ops:Array Oper}(h:JK E M b cs ds T V0 K0 σ0 w0 au (.inRegion ops (List.range ops.size)::k) fr σ):JK E M b cs ds T V0 K0 σ0 w0 au (.code (.region id ops false)::k) fr σ:=h.step fun _ _ _ _ _=>by simp[G,stepG,stepG.exec,Frame.atR]
theorem JK.done{ops:Array Oper}(h:JK E M b cs ds T V0 K0 σ0 w0 au k fr σ):JK E M b cs ds T V0 K0 σ0 w0 au (.inRegion ops []::k) fr σ:=h.step fun _ _ _ _ _=>by simp[G,stepG,stepG.exec,Frame.atR]
theorem cY.runs{P:Program}{M:cw P}{ops:Array Oper}{Q:Act→World→(Nat→Prop)→Prop}{b:Frame}{k:List Item}{cs:List Frame}{au:Goroutine→World→(Nat→Prop)→Prop}{l':List Nat}
  (hp:∀a' w' V',Q a' w' V'→M.J (G (b.atR a' (.inRegion ops l'::k)) cs) w' V' au):∀(l:List Nat) (a:Act) (w:World) (V:Nat→Prop),cY M ops Q l a w V→M.J (G (b.atR a (.inRegion ops (l++l')::k)) cs) w V au
 | [],a,w,V,h=>hp a w V h
 | i::l,a,w,V,h=>h b (l++l') k cs au fun a' w' V' h'=>cY.runs hp l a' w' V' h'
theorem vN{a:Act}{d:Option Tmp}{c:Value}(hd:∀e,d=some e→∀p∈T,p.1≠e)(hT:∀p∈T,a.tmps[p.1]? = some p.2):∀p∈T,(a.put d c).tmps[p.1]? = some p.2:=by
 intro p hp
 cases d with
 | none=>exact hT p hp
 | some e=>
  have:=hd e rfl p hp
  show(a.tmps.setIfInBounds e c)[p.1]? = _
  rw[Array.getElem?_setIfInBounds_ne (Ne.symm this)]
  exact hT p hp
def gQ(T:List (Nat×Value))(os:List Oper):Prop:=∀o∈os,∀e,o.dst=some e→∀p∈T,p.1≠e
theorem lh(hE:cm E)(hM:E.S M){ops:Array Oper}{Q:Fr→List aa→Prop}:∀(l:List Nat) (os:List Oper),l.map (fun i=>ops[i]?)=os.map some→gQ T os→
  ∀(K:Kr) (σ:List aa) (w:World) (V:Nat→Prop) (fr:Fr) (a:Act),cX E ops.toList os fr σ Q→R K σ w→aU M.Sh V K σ w→FR K σ.length E.N fr a.tmps→aI V0 K0 σ0 w0 V K σ w→a.defers=ds→(∀p∈T,a.tmps[p.1]? = some p.2)→
   cY M ops (fun a' w' V'=>mS E M.Sh V0 K0 σ0 w0 ds Q a' w' V'∧∀p∈T,a'.tmps[p.1]? = some p.2) l a w V
 | [],os,hl,hs,K,σ,w,V,fr,a,h,hR,hO,hF,hS,hd,hT=>by
  cases os with
  | cons=>simp at hl
  | nil=>exact⟨⟨K,σ,fr,h,hR,hO,hF,hS,hd⟩,hT⟩
 | i::l,os,hl,hs,K,σ,w,V,fr,a,h,hR,hO,hF,hS,hd,hT=>by
  cases os with
  | nil=>simp at hl
  | cons o os=>
   simp only[List.map_cons,List.cons.injEq] at hl
   obtain⟨hi,hl⟩:=hl
   have hs':gQ T os:=fun x hx=>hs x (by simp[hx])
   have ho:=hs o (by simp)
   have nx:∀(K':Kr) (σ':List aa) (w':World) (V':Nat→Prop) (v:AV) (c:Value),cz E ops.toList os o.dst fr Q v σ'→R K' σ' w'→aU M.Sh V' K' σ' w'→aI V K σ w V' K' σ' w'→VR K' σ'.length v c→
     cY M ops (fun a' w' V'=>mS E M.Sh V0 K0 σ0 w0 ds Q a' w' V'∧∀p∈T,a'.tmps[p.1]? = some p.2) l (a.put o.dst c) w' V':=by
    intro K' σ' w' V' v c h hR' hO' hS' hv
    have hF':FR K' σ'.length E.N fr a.tmps:=hF.mono hS'.ext hS'.len
    have hT':=vN (c:=c) ho hT
    revert h hT'
    cases o.dst with
    | none=>intro h hT';exact lh hE hM l os hl hs' K' σ' w' V' fr a h hR' hO' hF' (hS.trans hS') hd hT'
    | some d=>intro h hT';exact lh hE hM l os hl hs' K' σ' w' V' (fr.put d v) _ h.2 hR' hO' (hF'.put h.1 hv) (hS.trans hS') ((put_defers _ _ _).trans hd) hT'
   rw[jj] at h
   show e7 M ops i _ a w V
   split at h
   ·exact h.elim
   ·rename_i b hb
    have hw:=gk hF hb
    cases b with
    | false=>exact .unwanted hi hw fun w₁ hr=>nx K σ w₁ V _ _ (h.2 rfl) (hR.rely hO hr) (hO.rely hr) (.bN hr) fK
    | true=>exact kx hE hM hi hw (h.1 rfl) hR hO hF fun K' σ' w' V' v c h1 h2 h3 h4 h5=>nx K' σ' w' V' v c h1 h2 h3 h5 h4
theorem JK.ops(hE:cm E)(hM:E.S M){ops:Array Oper}(l l':List Nat)(os:List Oper)(hl:l.map (fun i=>ops[i]?)=os.map some)(hs:gQ T os)
  (h:cX E ops.toList os fr σ fun fr σ=>JK E M b cs ds T V0 K0 σ0 w0 au (.inRegion ops l'::k) fr σ):JK E M b cs ds T V0 K0 σ0 w0 au (.inRegion ops (l++l')::k) fr σ:=by
 intro K w V a hR hO hF hS hd hT
 refine cY.runs ?_ _ _ _ _ (lh hE hM l os hl hs K σ w V fr a h hR hO hF hS hd hT)
 rintro a' w' V' ⟨⟨K',σ',fr',hq,h2,h3,h4,h5,h6⟩,h7⟩
 exact hq K' w' V' a' h2 h3 h4 h5 h6 h7
theorem gQ.sub{os os':List Oper}(h:gQ T os)(hs:∀o∈os',o∈os):gQ T os':=fun o ho=>h o (hs o ho)
theorem gQ.nil{os:List Oper}:gQ [] os:=fun _ _ _ _ p hp=>by simp at hp
theorem JK.region(hE:cm E)(hM:E.S M){id:Nat}{ops:Array Oper}(hs:gQ T ops.toList)(h:cX E ops.toList ops.toList fr σ fun fr σ=>JK E M b cs ds T V0 K0 σ0 w0 au k fr σ):JK E M b cs ds T V0 K0 σ0 w0 au (.code (.region id ops false)::k) fr σ:=by
 have hl:(List.range ops.size).map (fun i=>ops[i]?)=ops.toList.map some:=by
  apply List.ext_getElem
  ·simp
  ·intro i h1 h2
   simp at h1 h2⊢
 refine JK.enter ?_
 rw[← List.append_nil (List.range ops.size)]
 refine JK.ops hE hM _ [] _ hl hs ?_
 exact jI (fun fr σ h=>JK.done h) h
theorem JK.first(hE:cm E)(hM:E.S M){id:Nat}{ops:Array Oper}(m:Nat)(l':List Nat)(hl:(List.range ops.size).drop m=l')(hm:m≤ops.size)(hs:gQ T ops.toList)
  (h:cX E ops.toList (ops.toList.take m) fr σ fun fr σ=>JK E M b cs ds T V0 K0 σ0 w0 au (.inRegion ops l'::k) fr σ):JK E M b cs ds T V0 K0 σ0 w0 au (.code (.region id ops false)::k) fr σ:=by
 refine JK.enter ?_
 rw[← List.take_append_drop m (List.range ops.size),hl]
 refine JK.ops hE hM _ _ _ ?_ (hs.sub fun o ho=>List.mem_of_mem_take ho) h
 apply List.ext_getElem
 ·simp
 ·intro i h1 h2
  simp at h1 h2⊢
theorem JK.last(hE:cm E)(hM:E.S M){ops:Array Oper}(m:Nat)(l':List Nat)(hl:(List.range ops.size).drop m=l')(hs:gQ T ops.toList)
  (h:cX E ops.toList (ops.toList.drop m) fr σ fun fr σ=>JK E M b cs ds T V0 K0 σ0 w0 au k fr σ):JK E M b cs ds T V0 K0 σ0 w0 au (.inRegion ops l'::k) fr σ:=by
 rw[← List.append_nil l',← hl]
 refine JK.ops hE hM _ [] _ ?_ (hs.sub fun o ho=>List.mem_of_mem_drop ho) (jI (fun fr σ h=>JK.done h) h)
 apply List.ext_getElem
 ·simp
 ·intro i h1 h2
  simp at h1 h2⊢
end
end Go.Mu
namespace Go.Mu
open Go Go.Conc
/-! ### lists of things each of which may move but so often -/
section
variable {α:Type}(r E:α→α→Prop)
def RL(l' l:List α):Prop:=l'.length=l.length∧∃i:Nat,(∃x y,l'[i]? = some x∧l[i]? = some y∧r x y)∧∀j:Nat,j≠i→∀x y,l'[j]? = some x→l[j]? = some y→E y x
variable {r E}
theorem RL.sub(hE:∀a a',E a a'→∀x,r x a'→r x a)(hT:∀a b c,E a b→E b c→E a c){l l₁ m:List α}(hl:l₁.length=l.length)(h:∀(j:Nat) x y,l₁[j]? = some x→l[j]? = some y→E y x∨x=y)(hm:RL r E m l₁):RL r E m l:=by
 obtain⟨h1,i,⟨x,y,hx,hy,hr⟩,h3⟩:=hm
 have get:∀(j:Nat) (z:α),m[j]? = some z→∃u,l₁[j]? = some u:=fun j z hz=>by
  have:=(List.getElem?_eq_some_iff.1 hz).1
  exact⟨_,List.getElem?_eq_getElem (by omega)⟩
 have get':∀(j:Nat) (z:α),m[j]? = some z→∃u,l[j]? = some u:=fun j z hz=>by
  have:=(List.getElem?_eq_some_iff.1 hz).1
  exact⟨_,List.getElem?_eq_getElem (by omega)⟩
 obtain⟨y',hy'⟩:=get' i x hx
 refine⟨h1.trans hl,i,⟨x,y',hx,hy',?_⟩,fun j hj u v hu hv=>?_⟩
 ·rcases h i y y' hy hy' with h | rfl
  ·exact hE _ _ h _ hr
  ·exact hr
 ·obtain⟨z,hz⟩:=get j u hu
  have:=h3 j hj u z hu hz
  rcases h j z v hz hv with h | rfl
  ·exact hT _ _ _ h this
  ·exact this
theorem RL.KU(hE:∀a a',E a a'→∀x,r x a'→r x a)(hT:∀a b c,E a b→E b c→E a c){a:α}(ha:Acc r a):∀{l:List α},Acc (RL r E) l→Acc (RL r E) (a::l):=by
 induction ha with
 | intro a ha iha=>
  intro l hl
  induction hl with
  | intro l hl ihl=>
   refine Acc.intro _ fun m hm=>?_
   obtain⟨h1,i,⟨x,y,hx,hy,hr⟩,h3⟩:=hm
   cases m with
   | nil=>simp at hx
   | cons u m=>
    have hlen:m.length=l.length:=by simpa using h1
    cases i with
    | zero=>
     simp at hx hy
     subst hx;subst hy
     refine iha _ hr (Acc.intro _ fun n hn=>hl n ?_)
     refine RL.sub hE hT hlen (fun j x y hx hy=> .inl (h3 (j+1) (by omega) x y (by simpa using hx) (by simpa using hy))) hn
    | succ k=>
     simp only[List.getElem?_cons_succ] at hx hy
     have hRL:RL r E m l:=⟨hlen,k,⟨x,y,hx,hy,hr⟩,fun j hj x y hx hy=>h3 (j+1) (by omega) x y (by simpa using hx) (by simpa using hy)⟩
     have hE0:=h3 0 (by omega) u a (by simp) (by simp)
     refine Acc.intro _ fun n hn=>(ihl m hRL).inv ?_
     refine RL.sub hE hT (by simp) (fun j x y hx hy=>?_) hn
     cases j with
     | zero=>simp at hx hy;subst hx;subst hy;exact .inl hE0
     | succ j=>simp at hx hy;rw[hx] at hy;simp at hy;exact .inr hy
theorem RL.acc(hE:∀a a',E a a'→∀x,r x a'→r x a)(hT:∀a b c,E a b→E b c→E a c):∀{l:List α},(∀a∈l,Acc r a)→Acc (RL r E) l
 | [],_=>Acc.intro _ fun m hm=>by obtain⟨_,i,⟨x,y,_,hy,_⟩,_⟩:=hm;simp at hy
 | a::l,h=>RL.KU hE hT (h a (by simp)) (RL.acc hE hT fun b hb=>h b (by simp[hb]))
end
/-! ### a goroutine in company -/
inductive CoJ(P:Program)(main:Bool)(Sh:Nat→Prop)(au:Goroutine→World→(Nat→Prop)→Prop):Goroutine→World→(Nat→Prop)→Prop
 | ret {g w V}:au g w V→CoJ P main Sh au g w V
 | step {g w V}:g.status= .running→(∀w₁,Rel V w w₁→∃g' w' es,stepG P main g w₁= .go g' w' es∧Gua Sh V w₁ w' es)→
   (∀w₁ g' w' es,Rel V w w₁→stepG P main g w₁= .go g' w' es→CoJ P main Sh au g' w' (ct V w₁.heap.size w'.heap.size))→CoJ P main Sh au g w V
theorem CoJ.bind{P:Program}{main:Bool}{Sh:Nat→Prop}{au Post':Goroutine→World→(Nat→Prop)→Prop}{g:Goroutine}{w:World}{V:Nat→Prop}(h:CoJ P main Sh au g w V)(hp:∀g' w' V',au g' w' V'→CoJ P main Sh Post' g' w' V'):CoJ P main Sh Post' g w V:=by
 induction h with
 | ret h=>exact hp _ _ _ h
 | step h1 h2 h3 ih=>exact .step h1 h2 ih
def Co(P:Program)(Sh:Nat→Prop):cw P where
 main:=false
 Sh:=Sh
 J:=fun g w V au=>CoJ P false Sh au g w V
 ret:= .ret
 bind:=fun h hp=>h.bind hp
 step:=fun hs h=> .step hs (fun w₁ hr=>let⟨g',w',es,h1,h2,_⟩:=h w₁ hr;⟨g',w',es,h1,h2⟩) (fun w₁ g' w' es hr he=>by
  obtain⟨g2,w2,es2,h1,_,h3⟩:=h w₁ hr
  rw[he] at h1;cases h1;exact h3)
def eG(P:Program):Nat→Goroutine→Prop
 | 0,g=>g.status= .finished
 | n+1,g=>g.status= .finished∨(g.status= .running∧∃g',(∀w,stepG P false g w= .go g' w #[])∧eG P n g')
theorem eG.E5{P:Program}:∀{n:Nat} {g:Goroutine},eG P n g→QuitsD P n 0 g
 | 0,_,h=>⟨h,rfl⟩
 | n+1,_,h=>h.elim (fun x=> .inl ⟨x,rfl⟩) fun⟨h1,g',h2,h3⟩=> .inr ⟨h1,g',#[],by simp,h2,h3.E5⟩
theorem eG.status{P:Program}:∀{n:Nat} {g:Goroutine},eG P n g→g.status= .running∨g.status= .finished
 | 0,_,h=> .inr h
 | _+1,_,h=>h.elim .inr fun x=> .inl x.1
def AtSend(P:Program)(Sh:Nat→Prop)(c:Nat)(Msg:Value→World→(Nat→Prop)→Prop)(g:Goroutine)(w:World)(V:Nat→Prop):Prop:=
 g.status= .running∧∀w₁,Rel V w w₁→∃g₂ v z es,stepG P false g w₁= .comm g₂ #[scase c v z] true .send w₁ es∧Gua Sh V w₁ w₁ es∧Msg v w₁ V∧∃n,eG P n (Conc.served g₂ undef)
def WT(P:Program)(Sh:Nat→Prop)(c:Nat)(Msg:Value→World→(Nat→Prop)→Prop):Goroutine→World→(Nat→Prop)→Prop:=CoJ P false Sh (AtSend P Sh c Msg)
theorem AtSend.rely{P:Program}{Sh:Nat→Prop}{c:Nat}{Msg:Value→World→(Nat→Prop)→Prop}{g:Goroutine}{w w₁:World}{V:Nat→Prop}(h:AtSend P Sh c Msg g w V)(hr:Rel V w w₁):AtSend P Sh c Msg g w₁ V:=
 ⟨h.1,fun w₂ h2=>h.2 w₂ (hr.trans h2)⟩
theorem WT.rely{P:Program}{Sh:Nat→Prop}{c:Nat}{Msg:Value→World→(Nat→Prop)→Prop}{g:Goroutine}{w w₁:World}{V:Nat→Prop}(h:WT P Sh c Msg g w V)(hr:Rel V w w₁):WT P Sh c Msg g w₁ V:=by
 cases h with
 | ret h=>exact .ret (h.rely hr)
 | step h1 h2 h3=>exact .step h1 (fun w₂ hw=>h2 w₂ (hr.trans hw)) (fun w₂ g' w' es hw=>h3 w₂ g' w' es (hr.trans hw))
theorem WT.running{P:Program}{Sh:Nat→Prop}{c:Nat}{Msg:Value→World→(Nat→Prop)→Prop}{g:Goroutine}{w:World}{V:Nat→Prop}(h:WT P Sh c Msg g w V):g.status= .running:=by
 cases h with
 | ret h=>exact h.1
 | step h1=>exact h1
inductive WS where
 | act (k:Nat) (g:Goroutine) (w:World) (V:Nat→Prop)
 | quit (n:Nat)
def WS.r(P:Program):WS→WS→Prop
 | .act k' g' w' V',.act k g w V=>∃w₁ es,Rel V w w₁∧stepG P false g w₁= .go g' w' es∧V'=ct V w₁.heap.size w'.heap.size∧k'=k
 | .quit _,.act _ _ _ _=>True
 | .quit m,.quit n=>m<n
 | .act _ _ _ _,.quit _=>False
def WS.E:WS→WS→Prop
 | .act k g w V,.act k' g' w' V'=>k'=k∧g'=g∧V'=V∧Rel V w w'
 | .quit n,.quit m=>m=n
 | _,_=>False
theorem WS.closed(P:Program):∀a a',WS.E a a'→∀x,WS.r P x a'→WS.r P x a
 | .act k g w V,.act k' g' w' V',h,x,hx=>by
  obtain⟨rfl,rfl,rfl,hr⟩:=h
  cases x with
  | act k2 g2 w2 V2=>obtain⟨w₁,es,h1,h2,h3,h4⟩:=hx;exact⟨w₁,es,hr.trans h1,h2,h3,h4⟩
  | quit n=>trivial
 | .quit n,.quit m,h,x,hx=>by
  obtain rfl:m=n:=h
  exact hx
 | .act _ _ _ _,.quit _,h,_,_=>h.elim
 | .quit _,.act _ _ _ _,h,_,_=>h.elim
theorem WS.trans:∀a b c,WS.E a b→WS.E b c→WS.E a c
 | .act k g w V,.act k' g' w' V',.act k2 g2 w2 V2,h,h'=>by
  obtain⟨rfl,rfl,rfl,hr⟩:=h
  obtain⟨rfl,rfl,rfl,hr'⟩:=h'
  exact⟨rfl,rfl,rfl,hr.trans hr'⟩
 | .quit n,.quit m,.quit l,h,h'=>by
  obtain rfl:m=n:=h
  exact h'
 | .act _ _ _ _,.quit _,_,h,_=>h.elim
 | .quit _,.act _ _ _ _,_,h,_=>h.elim
 | .act _ _ _ _,.act _ _ _ _,.quit _,_,h=>h.elim
 | .quit _,.quit _,.act _ _ _ _,_,h=>h.elim
theorem WS.rG(P:Program)(n:Nat):Acc (WS.r P) (.quit n):=by
 induction n using Nat.strongRecOn with
 | _ n ih=>
  refine Acc.intro _ fun x hx=>?_
  cases x with
  | act=>exact hx.elim
  | quit m=>exact ih m hx
theorem WT.acc{P:Program}{Sh:Nat→Prop}{c:Nat}{Msg:Value→World→(Nat→Prop)→Prop}{g:Goroutine}{w:World}{V:Nat→Prop}(h:WT P Sh c Msg g w V)(k:Nat):Acc (WS.r P) (.act k g w V):=by
 unfold WT at h
 induction h with
 | ret h=>
  refine Acc.intro _ fun x hx=>?_
  cases x with
  | act k' g' w' V'=>
   obtain⟨w₁,es,h1,h2,_⟩:=hx
   obtain⟨g₂,v,z,es',h3,_⟩:=h.2 w₁ h1
   rw[h2] at h3;cases h3
  | quit n=>exact WS.rG P n
 | step h1 h2 h3 ih=>
  refine Acc.intro _ fun x hx=>?_
  cases x with
  | act k' g' w' V'=>
   obtain⟨w₁,es,h1,h2,rfl,rfl⟩:=hx
   exact ih w₁ g' w' es h1 h2
  | quit n=>exact WS.rG P n
end Go.Mu
namespace Go.Mu
open Go Go.Conc
def ly:Loc→Option Nat
 | .cell a=>some a.block
 | .obj r=>some r
 | _=>none
theorem uC{l:Loc}{b B:Nat}(h:ly l=some b)(hl:l.low B):b<B:=by
 cases l<;> simp_all [ly,Loc.low]
inductive Who where
 | g (p:Nat)
 | m (k:Nat)
def Kn(c:Nat)(t:Trace):Who→Nat→Prop
 | .g p,i=>Knows t p i
 | .m k,i=>∃q z,t[q]? = some z∧z.act= .send c k∧Before t i q
theorem Kn.app{c:Nat}{t:Trace}(u:Trace){h:Who}{i:Nat}(hk:Kn c t h i):Kn c (t++u) h i:=by
 cases h with
 | g p=>exact Knows.app u hk
 | m k=>
  obtain⟨q,z,h1,h2,h3⟩:=hk
  exact⟨q,z,by rw[getElem?_append_old (lt_size_of_getElem? h1)];exact h1,h2,h3.app u⟩
def Own(c:Nat)(Sh:Nat→Prop)(t:Trace)(h:Who)(V:Nat→Prop):Prop:=
 ∀i a b,touchAt t i=some a→ly a.loc=some b→V b→(Sh b∧a.write=false)∨Kn c t h i
structure Tra(t:Trace)(B:Nat):Prop where
 clean:∀said,¬Race said t
 wordless:Wordless t
 seen:∀op∈t,op.act.low B
theorem uA{n:Nat}{A C:Nat→Prop}{top:Nat}{e:Event}(h:jw n A C top e){x:Touch}(hx:(MemAct.ofEvent e).touch? = some x) :
  x.kind= .plain∧∃b,ly x.loc=some b∧b<top∧(n≤b∨A b∨(C b∧x.write=false)):=by
 obtain⟨loc,wr,sy⟩:=e
 cases loc with
 | cell a=>
  obtain⟨h1,h2,h3⟩:=h
  simp only at h2;subst h2
  simp only[MemAct.ofEvent,MemAct.touch?,Option.some.injEq] at hx
  subst hx
  exact⟨rfl,a.block,rfl,h1,h3⟩
 | obj r=>
  obtain⟨h1,h2,h3⟩:=h
  simp only at h2;subst h2
  have:(MemAct.ofEvent ⟨.obj r,wr,false⟩)= .access ⟨.obj r,wr,false⟩:=by cases wr<;> rfl
  rw[this] at hx
  simp only[MemAct.touch?,Option.some.injEq] at hx
  subst hx
  exact⟨rfl,r,rfl,h1,h3.imp id fun h=> .inl h⟩
 | mark m=>
  have:m= .noRoom:=h
  subst this
  simp[MemAct.ofEvent,MemAct.touch?] at hx
 | output=>exact h.elim
 | goroutines=>exact h.elim
theorem Ix{n:Nat}{A C:Nat→Prop}{top:Nat}{e:Event}(h:jw n A C top e):∀m,MemAct.ofEvent e= .mark m→Neutral m:=by
 obtain⟨loc,wr,sy⟩:=e
 intro m hm
 cases loc with
 | cell a=>simp[MemAct.ofEvent] at hm
 | obj r=>
  have h2:sy=false:=h.2.1
  subst h2
  cases wr<;> simp[MemAct.ofEvent] at hm
 | mark m'=>
  have:m'= .noRoom:=h
  subst this
  simp[MemAct.ofEvent] at hm
  exact hm.symm
 | output=>exact h.elim
 | goroutines=>exact h.elim
theorem LI{n:Nat}{A C:Nat→Prop}{top:Nat}{e:Event}(h:jw n A C top e):(MemAct.ofEvent e).low top:=by
 obtain⟨loc,wr,sy⟩:=e
 cases loc with
 | cell a=>exact h.1
 | obj r=>
  obtain⟨h1,h2,h3⟩:=h
  simp only at h2;subst h2
  have:(MemAct.ofEvent ⟨.obj r,wr,false⟩)= .access ⟨.obj r,wr,false⟩:=by cases wr<;> rfl
  rw[this]
  exact h1
 | mark m=>
  have:m= .noRoom:=h
  subst this
  trivial
 | output=>exact h.elim
 | goroutines=>exact h.elim
section
variable {c:Nat}{Sh V V':Nat→Prop}{t u:Trace}{B B' p:Nat}{fn:FuncId}{pos:String}{es:Array Event}
theorem Tra.mono(h:Tra t B)(hB:B≤B'):Tra t B':=⟨h.clean,h.wordless,fun op hop=>MemAct.low_mono hB (h.seen op hop)⟩
theorem Tra.mute(h:Tra t B){g:Nat}(hn:∀op∈u,op.act.touch? = none)(hw:Wordless u)(hl:∀op∈u,op.act.low B):Tra (t++u) B:=by
 refine⟨fun said=>?_,h.wordless.append hw,seen_app h.seen hl⟩
 rintro⟨i,j,hij,⟨a,b,ha,hb,hc⟩,n1,n2⟩
 obtain⟨x,hx,hxa⟩:=touch_of ha
 obtain⟨y,hy,hyb⟩:=touch_of hb
 have old:∀{k:Nat} {z:MemOp} {e:Touch},(t++u)[k]? = some z→z.act.touch? = some e→k<t.size∧t[k]? = some z:=by
  intro k z e hz he
  rcases getElem?_append_cases hz with h | ⟨_,h⟩
  ·exact h
  ·rw[hn z h] at he;cases he
 obtain⟨hi,hx'⟩:=old hx hxa
 obtain⟨hj,hy'⟩:=old hy hyb
 exact h.clean said ⟨i,j,hij,⟨a,b,by simp[Trace.act?,hx',hxa],by simp[Trace.act?,hy',hyb],hc⟩,fun e=>n1 (hb_app u e),fun e=>n2 (hb_app u e)⟩
theorem db{i:Nat}{a:Touch}(h:touchAt (t++u) i=some a):(i<t.size∧touchAt t i=some a)∨(∃op∈u,(t++u)[i]? = some op∧op.act.touch? = some a∧t.size≤i):=by
 obtain⟨x,hx,hxa⟩:=touch_of h
 rcases getElem?_append_cases hx with⟨hi,hx'⟩ | ⟨hi,hxu⟩
 ·exact .inl ⟨hi,by rw[touchAt_of hx'];exact hxa⟩
 ·exact .inr ⟨x,hxu,hx,hxa,hi⟩
theorem Own.mute{h:Who}(ho:Own c Sh t h V)(hn:∀op∈u,op.act.touch? = none):Own c Sh (t++u) h V:=by
 intro i a b ha hb hv
 rcases db ha with⟨_,ha'⟩ | ⟨op,hop,_,hx,_⟩
 ·exact(ho i a b ha' hb hv).imp id (Kn.app u)
 ·rw[hn op hop] at hx;cases hx
theorem Own.own(ho:Own c Sh t (.g p) V)(hT:Tra t B):Own c Sh (t++MemOp.ofEvents p fn pos es) (.g p) (ct V B B'):=by
 intro i a b ha hb hv
 rcases db ha with⟨hi,ha'⟩ | ⟨op,hop,hx,_,_⟩
 ·rcases hv with hv | ⟨hv,_⟩
  ·exact(ho i a b ha' hb hv).imp id (Kn.app _)
  ·obtain⟨x,hx,hxa⟩:=touch_of ha'
   have:=hT.seen x (mem_of_getElem? hx)
   have hlow:a.loc.low B:=by
    revert hxa this
    cases x.act with
    | access e=>intro hxa this;simp[MemAct.touch?] at hxa;subst hxa;exact this
    | mark m=>intro hxa this;cases m<;> simp[MemAct.touch?] at hxa<;> subst hxa<;> exact this
    | _=>intro hxa;simp[MemAct.touch?] at hxa
   have:=uC hb hlow
   omega
 ·have hg:op.g=p:=by obtain⟨e,_,rfl⟩:=Conc.mem_ofEvents hop;rfl
  have:=knows_own hx
  rw[hg] at this
  exact .inr this
theorem Own.other{h:Who}(ho:Own c Sh t h V')(hes:∀e∈es,jw B (fun b=>V b∧¬Sh b) V B' e)(hd:∀b,V b→V' b→Sh b)(hl:∀b,V' b→b<B):Own c Sh (t++MemOp.ofEvents p fn pos es) h V':=by
 intro i a b ha hb hv
 rcases db ha with⟨hi,ha'⟩ | ⟨op,hop,hx,hxa,_⟩
 ·exact(ho i a b ha' hb hv).imp id (Kn.app _)
 ·obtain⟨e,he,rfl⟩:=Conc.mem_ofEvents hop
  obtain⟨_,b',hb',_,h3⟩:=uA (hes e he) hxa
  rw[hb] at hb';cases hb'
  have:=hl b hv
  rcases h3 with h3 | ⟨h3,h4⟩ | ⟨h3,h4⟩
  ·omega
  ·exact absurd (hd b h3 hv) h4
  ·exact .inl ⟨hd b h3 hv,h4⟩
theorem Tra.own(hT:Tra t B)(ho:Own c Sh t (.g p) V)(hes:∀e∈es,jw B (fun b=>V b∧¬Sh b) V B' e)(hB:B≤B'):Tra (t++MemOp.ofEvents p fn pos es) B':=by
 refine⟨fun said=>noRace_append (hT.clean said) (fun op hop=>by obtain⟨e,_,rfl⟩:=Conc.mem_ofEvents hop;rfl) fun i a ha op hop x hx hc=>?_,hT.wordless.append fun op hop=>?_,seen_app (fun op hop=>MemAct.low_mono hB (hT.seen op hop)) fun op hop=>?_⟩
 ·obtain⟨e,he,rfl⟩:=Conc.mem_ofEvents hop
  obtain⟨_,b,hb,_,h3⟩:=uA (hes e he) hx
  obtain⟨hloc,_,hwr,_⟩:=hc
  have hba:ly a.loc=some b:=by rw[hloc];exact hb
  rcases h3 with h3 | ⟨h3,h4⟩ | ⟨h3,h4⟩
  ·obtain⟨z,hz,hza⟩:=touch_of ha
   have:=hT.seen z (mem_of_getElem? hz)
   have hlow:a.loc.low B:=by
    revert hza this
    cases z.act with
    | access e=>intro hxa this;simp[MemAct.touch?] at hxa;subst hxa;exact this
    | mark m=>intro hxa this;cases m<;> simp[MemAct.touch?] at hxa<;> subst hxa<;> exact this
    | _=>intro hxa;simp[MemAct.touch?] at hxa
   have:=uC hba hlow
   omega
  ·rcases ho i a b ha hba h3 with h | h
   ·exact absurd h.1 h4
   ·exact h
  ·rcases ho i a b ha hba h3 with h | h
   ·rw[h.2,h4] at hwr
    simp at hwr
   ·exact h
 ·obtain⟨e,he,rfl⟩:=Conc.mem_ofEvents hop
  exact Ix (hes e he)
 ·obtain⟨e,he,rfl⟩:=Conc.mem_ofEvents hop
  exact LI (hes e he)
end
end Go.Mu
namespace Go.Mu
open Go Go.Conc
structure fN where
 k:Nat
 v:Value
 w:World
 V:Nat→Prop
inductive bA(ws:List WS)(ms:List fN)(r:Nat)(V:Nat→Prop):Who→(Nat→Prop)→Prop
 | main:bA ws ms r V (.g 0) V
 | act {i:Nat} {k:Nat} {g:Goroutine} {w:World} {V':Nat→Prop}:ws[i]? = some (.act k g w V')→bA ws ms r V (.g (i+1)) V'
 | msg {j:Nat} {m:fN}:ms[j]? = some m→bA ws ms r V (.m (r+j)) m.V
def WS.key:WS→Option Nat
 | .act k _ _ _=>some k
 | .quit _=>none
def fH(ws:List WS):List Nat:=ws.filterMap WS.key
structure Crw where
 P:Program
 Sh:Nat→Prop
 c:Nat
 cap:Nat
 tm:Bool
 Msg:Nat→Value→World→(Nat→Prop)→Prop
def Crw.si(C:Crw)(w:World)(g:Goroutine):WS→Prop
 | .act k g' w' V'=>g'=g∧WT C.P C.Sh C.c (C.Msg k) g w' V'∧Rel V' w' w
 | .quit n=>eG C.P n g
structure bq(C:Crw)(gs:Array Goroutine)(w:World)(t:Trace)(V:Nat→Prop)(ws:List WS)(ms:List fN)(s:Nat)(D:List Nat):Prop where
 size:gs.size=ws.length+1
 at_:∀(i:Nat) x,ws[i]? = some x→∃g,gs[i+1]? = some g∧C.si w g x
 chan:w.heap[C.c]? = some (.chan C.cap (ms.map (·.v)).toArray false (D.length+ms.length) D.length C.tm)
 msgs:∀m∈ms,C.Msg m.k m.v m.w m.V∧Rel m.V m.w w
 perm:(fH ws++(ms.map (·.k)++D)).Perm (List.range s)
 room:s≤C.cap
 lt:∀h V',bA ws ms D.length V h V'→∀b,V' b→b<w.heap.size∧b≠C.c
 disj:∀h h' V' V'',bA ws ms D.length V h V'→bA ws ms D.length V h' V''→h≠h'→∀b,V' b→V'' b→C.Sh b
 own:∀h V',bA ws ms D.length V h V'→Own C.c C.Sh t h V'
 tra:Tra t w.heap.size
 all:∀i a,touchAt t i=some a→a.loc.isMemory=true→Knows t 0 i∨(∃j:Nat,∃k g w V,ws[j]? = some (.act k g w V)∧t.g? i=some (j+1))∨∃j,j<ms.length∧Kn C.c t (.m (D.length+j)) i
section
variable {C:Crw}{gs:Array Goroutine}{w w':World}{t:Trace}{V:Nat→Prop}{ws:List WS}{ms:List fN}{s:Nat}{D:List Nat}
theorem lf{Sh V V':Nat→Prop}{w w':World}{es:Array Event}(hG:Gua Sh V w w' es)(hd:∀b,V b→V' b→Sh b):Rel V' w w':=
 ⟨hG.size,fun b hb hv=>hG.keep b hb (by
  by_cases h:V b
  ·exact .inr (hd b h hv)
  ·exact .inl h),hG.os,hG.tape,hG.output⟩
theorem nu(V:Nat→Prop)(w:World)(d:Nat):Rel V w (w.at d):=⟨Nat.le_refl _,fun _ _ _=>rfl,rfl,rfl,rfl⟩
theorem fw{V:Nat→Prop}{w:World}{c cap s r:Nat}{buf:Array Value}{cl tm:Bool}(h:∀b,V b→b≠c):Rel V w (w.setChan c cap buf cl s r tm):=
 ⟨by simp[World.setChan],fun b hb hv=>by simp only[World.setChan];rw[Array.getElem?_setIfInBounds_ne (Ne.symm (h b hv))],rfl,rfl,rfl⟩
theorem Crw.si.rel{g:Goroutine}{x:WS}(h:C.si w g x)(hr:∀k g' w0 V',x= .act k g' w0 V'→Rel V' w w'):C.si w' g x:=by
 cases x with
 | act k g' w0 V'=>exact⟨h.1,h.2.1,h.2.2.trans (hr _ _ _ _ rfl)⟩
 | quit n=>exact h
theorem Crw.si.status{g:Goroutine}{x:WS}(h:C.si w g x):g.status= .running∨g.status= .finished:=by
 cases x with
 | act k g' w0 V'=>exact .inl h.2.1.running
 | quit n=>exact eG.status h
theorem bq.get(h:bq C gs w t V ws ms s D){i:Nat}{g:Goroutine}(hg:gs[i+1]? = some g):∃x,ws[i]? = some x∧C.si w g x:=by
 have hi:=(Array.getElem?_eq_some_iff.1 hg).1
 have:i<ws.length:=by have:=h.size;omega
 obtain⟨g',h1,h2⟩:=h.at_ i _ (List.getElem?_eq_getElem this)
 rw[hg] at h1;cases h1
 exact⟨_,List.getElem?_eq_getElem this,h2⟩
theorem jA{P:Program}{a a' b:Goroutine}{w':World}(h:b.status= .running∨b.status= .finished):woken P a a' w' b=b:=by
 unfold woken
 split
 ·exact again_running _ h
 ·rfl
theorem bq.calm(h:bq C gs w t V ws ms s D){a a' g₀:Goroutine}(w₁:World)(h0:gs[0]? = some g₀)(hw:woken C.P a a' w₁ g₀=g₀):gs.map (woken C.P a a' w₁)=gs:=by
 apply Array.ext_getElem?
 intro i
 rw[Array.getElem?_map]
 cases hi:gs[i]? with
 | none=>rfl
 | some g=>
  simp only[Option.map_some,Option.some.injEq]
  cases i with
  | zero=>rw[h0] at hi;cases hi;exact hw
  | succ i=>
   obtain⟨x,_,hx⟩:=h.get hi
   exact jA hx.status
theorem bq.draw(h:bq C gs w t V ws ms s D)(d:Nat):bq C gs (w.at d) t V ws ms s D:=
 ⟨h.size,fun i x hx=>let⟨g,h1,h2⟩:=h.at_ i x hx;⟨g,h1,h2.rel fun _ _ _ V' _=>nu V' w d⟩,h.chan,fun m hm=>⟨(h.msgs m hm).1,(h.msgs m hm).2.trans (nu _ _ _)⟩,h.perm,h.room,h.lt,h.disj,h.own,h.tra,h.all⟩
theorem getElem?_acts{i:Nat}{x:WS}(hx:ws[i]? = some x):∃l₁ l₂,fH ws=l₁++x.key.toList++l₂∧∀y,fH (ws.set i y)=l₁++y.key.toList++l₂:=by
 obtain⟨hi,rfl⟩:=List.getElem?_eq_some_iff.1 hx
 refine⟨fH (ws.take i),fH (ws.drop (i+1)),?_,fun y=>?_⟩
 ·conv=>lhs;rw[← List.take_append_drop i ws,List.drop_eq_getElem_cons hi]
  unfold fH
  rw[List.filterMap_append,List.filterMap_cons]
  cases ws[i].key<;> simp
 ·rw[List.set_eq_take_append_cons_drop,if_pos hi]
  unfold fH
  rw[List.filterMap_append,List.filterMap_cons]
  cases y.key<;> simp
theorem bq.main(h:bq C gs w t V ws ms s D){g':Goroutine}{es:Array Event}{fn:FuncId}{pos:String}(hG:Gua C.Sh V w w' es) :
  bq C (gs.setIfInBounds 0 g') w' (t++MemOp.ofEvents 0 fn pos es) (ct V w.heap.size w'.heap.size) ws ms s D:=by
 have hmain:=h.lt _ _ .main
 have hc:=(Array.getElem?_eq_some_iff.1 h.chan).1
 have hd:∀h' V',bA ws ms D.length V h' V'→h'≠ .g 0→∀b,V b→V' b→C.Sh b:=fun h' V' hh hne b h1 h2=>h.disj _ _ _ _ .main hh (Ne.symm hne) b h1 h2
 have hinv:∀h' V',bA ws ms D.length (ct V w.heap.size w'.heap.size) h' V'→(h'= .g 0∧V'=ct V w.heap.size w'.heap.size)∨(h'≠ .g 0∧bA ws ms D.length V h' V'):=by
  intro h' V' hh
  cases hh with
  | main=>exact .inl ⟨rfl,rfl⟩
  | act hx=>exact .inr ⟨by simp,.act hx⟩
  | msg hx=>exact .inr ⟨by simp,.msg hx⟩
 refine⟨by simpa using h.size,fun i x hx=>?_,?_,fun m hm=>⟨(h.msgs m hm).1,?_⟩,h.perm,h.room,fun h' V' hh b hb=>?_,fun h1 h2 V1 V2 hh1 hh2 hne b hb1 hb2=>?_,fun h' V' hh=>?_,h.tra.own (h.own _ _ .main) hG.evs hG.size,fun i a ha hm=>?_⟩
 ·obtain⟨g1,h1,h2⟩:=h.at_ i x hx
  refine⟨g1,by rw[Array.getElem?_setIfInBounds_ne (by omega)];exact h1,h2.rel fun k g' w0 V' e=>?_⟩
  subst e
  exact lf hG (hd _ _ (.act hx) (by simp))
 ·rw[hG.keep _ hc (.inl fun hv=>(hmain _ hv).2 rfl)];exact h.chan
 ·obtain⟨j,hj⟩:=List.getElem?_of_mem hm
  exact(h.msgs m hm).2.trans (lf hG (hd _ _ (.msg hj) (by simp)))
 ·rcases hinv _ _ hh with⟨rfl,rfl⟩ | ⟨_,hh⟩
  ·rcases hb with hb | ⟨h1,h2⟩
   ·have:=hmain b hb;exact⟨Nat.lt_of_lt_of_le this.1 hG.size,this.2⟩
   ·exact⟨h2,by omega⟩
  ·have:=h.lt _ _ hh b hb;exact⟨Nat.lt_of_lt_of_le this.1 hG.size,this.2⟩
 ·rcases hinv _ _ hh1 with⟨rfl,rfl⟩ | ⟨n1,hh1⟩<;> rcases hinv _ _ hh2 with⟨rfl,rfl⟩ | ⟨n2,hh2⟩
  ·exact absurd rfl hne
  ·rcases hb1 with hb1 | ⟨hb1,_⟩
   ·exact h.disj _ _ _ _ .main hh2 hne b hb1 hb2
   ·have:=(h.lt _ _ hh2 b hb2).1;omega
  ·rcases hb2 with hb2 | ⟨hb2,_⟩
   ·exact h.disj _ _ _ _ hh1 .main hne b hb1 hb2
   ·have:=(h.lt _ _ hh1 b hb1).1;omega
  ·exact h.disj _ _ _ _ hh1 hh2 hne b hb1 hb2
 ·rcases hinv _ _ hh with⟨rfl,rfl⟩ | ⟨n,hh⟩
  ·exact(h.own _ _ .main).own h.tra
  ·exact(h.own _ _ hh).other hG.evs (hd _ _ hh n) fun b hb=>(h.lt _ _ hh b hb).1
 ·rcases db ha with⟨hi,ha'⟩ | ⟨op,hop,hx,hxa,_⟩
  ·rcases h.all i a ha' hm with h1 | ⟨j,k,g,w0,V0,h1,h2⟩ | ⟨j,h1,h2⟩
   ·exact .inl (h1.app _)
   ·exact .inr (.inl ⟨j,k,g,w0,V0,h1,by simpa[Trace.g?,getElem?_append_old hi] using h2⟩)
   ·exact .inr (.inr ⟨j,h1,h2.app _⟩)
  ·have hg:op.g=0:=by obtain⟨e,_,rfl⟩:=Conc.mem_ofEvents hop;rfl
   have:=knows_own hx
   rw[hg] at this
   exact .inl this
theorem bA.set{i k:Nat}{g g':Goroutine}{w0 w1:World}{V0 V1:Nat→Prop}(hx:ws[i]? = some (.act k g w0 V0)){h':Who}{V':Nat→Prop}{r:Nat}(hh:bA (ws.set i (.act k g' w1 V1)) ms r V h' V') :
  (h'= .g (i+1)∧V'=V1)∨(h'≠ .g (i+1)∧bA ws ms r V h' V'):=by
 cases hh with
 | main=>exact .inr ⟨by simp,.main⟩
 | @act j k2 g2 w2 V2 hj=>
  by_cases e:i=j
  ·subst e
   rw[List.getElem?_set_self (List.getElem?_eq_some_iff.1 hx).1] at hj
   cases hj
   exact .inl ⟨rfl,rfl⟩
  ·rw[List.getElem?_set_ne e] at hj
   exact .inr ⟨by simp;omega,.act hj⟩
 | msg hj=>exact .inr ⟨by simp,.msg hj⟩
theorem bq.work(h:bq C gs w t V ws ms s D){i k:Nat}{g g':Goroutine}{w0:World}{V0:Nat→Prop}{es:Array Event}{fn:FuncId}{pos:String}(hx:ws[i]? = some (.act k g w0 V0))(hG:Gua C.Sh V0 w w' es)
  (hT:WT C.P C.Sh C.c (C.Msg k) g' w' (ct V0 w.heap.size w'.heap.size)) :
  bq C (gs.setIfInBounds (i+1) g') w' (t++MemOp.ofEvents (i+1) fn pos es) V (ws.set i (.act k g' w' (ct V0 w.heap.size w'.heap.size))) ms s D:=by
 have hme:=h.lt _ _ (.act hx)
 have hc:=(Array.getElem?_eq_some_iff.1 h.chan).1
 have hil:=(List.getElem?_eq_some_iff.1 hx).1
 have hd:∀h' V',bA ws ms D.length V h' V'→h'≠ .g (i+1)→∀b,V0 b→V' b→C.Sh b:=fun h' V' hh hne b h1 h2=>h.disj _ _ _ _ (.act hx) hh (Ne.symm hne) b h1 h2
 refine⟨by simpa using h.size,fun j x hj=>?_,?_,fun m hm=>⟨(h.msgs m hm).1,?_⟩,?_,h.room,fun h' V' hh b hb=>?_,fun h1 h2 V1 V2 hh1 hh2 hne b hb1 hb2=>?_,fun h' V' hh=>?_,h.tra.own (h.own _ _ (.act hx)) hG.evs hG.size,fun j a ha hm=>?_⟩
 ·by_cases e:i=j
  ·subst e
   rw[List.getElem?_set_self hil] at hj
   cases hj
   exact⟨g',by rw[Array.getElem?_setIfInBounds_self_of_lt (by have:=h.size;omega)],rfl,hT,.refl _ _⟩
  ·rw[List.getElem?_set_ne e] at hj
   obtain⟨g1,h1,h2⟩:=h.at_ j x hj
   refine⟨g1,by rw[Array.getElem?_setIfInBounds_ne (by omega)];exact h1,h2.rel fun k g' w0 V' e'=>?_⟩
   subst e'
   exact lf hG (hd _ _ (.act hj) (by simp;omega))
 ·rw[hG.keep _ hc (.inl fun hv=>(hme _ hv).2 rfl)];exact h.chan
 ·obtain⟨j,hj⟩:=List.getElem?_of_mem hm
  exact(h.msgs m hm).2.trans (lf hG (hd _ _ (.msg hj) (by simp)))
 ·obtain⟨l₁,l₂,e1,e2⟩:=getElem?_acts hx
  have:=h.perm
  rw[e1] at this;rw[e2];exact this
 ·rcases hh.set hx with⟨rfl,rfl⟩ | ⟨_,hh⟩
  ·rcases hb with hb | ⟨h1,h2⟩
   ·have:=hme b hb;exact⟨Nat.lt_of_lt_of_le this.1 hG.size,this.2⟩
   ·exact⟨h2,by omega⟩
  ·have:=h.lt _ _ hh b hb;exact⟨Nat.lt_of_lt_of_le this.1 hG.size,this.2⟩
 ·rcases hh1.set hx with⟨rfl,rfl⟩ | ⟨n1,hh1⟩<;> rcases hh2.set hx with⟨rfl,rfl⟩ | ⟨n2,hh2⟩
  ·exact absurd rfl hne
  ·rcases hb1 with hb1 | ⟨hb1,_⟩
   ·exact h.disj _ _ _ _ (.act hx) hh2 hne b hb1 hb2
   ·have:=(h.lt _ _ hh2 b hb2).1;omega
  ·rcases hb2 with hb2 | ⟨hb2,_⟩
   ·exact h.disj _ _ _ _ hh1 (.act hx) hne b hb1 hb2
   ·have:=(h.lt _ _ hh1 b hb1).1;omega
  ·exact h.disj _ _ _ _ hh1 hh2 hne b hb1 hb2
 ·rcases hh.set hx with⟨rfl,rfl⟩ | ⟨n,hh⟩
  ·exact(h.own _ _ (.act hx)).own h.tra
  ·exact(h.own _ _ hh).other hG.evs (hd _ _ hh n) fun b hb=>(h.lt _ _ hh b hb).1
 ·rcases db ha with⟨hi,ha'⟩ | ⟨op,hop,hy,hya,_⟩
  ·rcases h.all j a ha' hm with h1 | ⟨j',k',g1,w1,V1,h1,h2⟩ | ⟨j',h1,h2⟩
   ·exact .inl (h1.app _)
   ·have h2':(t++MemOp.ofEvents (i+1) fn pos es).g? j=some (j'+1):=by simpa[Trace.g?,getElem?_append_old hi] using h2
    by_cases e:i=j'
    ·subst e
     exact .inr (.inl ⟨i,_,_,_,_,List.getElem?_set_self hil,h2'⟩)
    ·exact .inr (.inl ⟨j',k',g1,w1,V1,by rw[List.getElem?_set_ne e];exact h1,h2'⟩)
   ·exact .inr (.inr ⟨j',h1,h2.app _⟩)
  ·have hg:op.g=i+1:=by obtain⟨e,_,rfl⟩:=Conc.mem_ofEvents hop;rfl
   exact .inr (.inl ⟨i,_,_,_,_,List.getElem?_set_self hil,by simp[Trace.g?,hy,hg]⟩)
end
end Go.Mu
namespace Go.Mu
open Go Go.Conc
section
variable {C:Crw}{gs:Array Goroutine}{w w':World}{t u:Trace}{V V₁ Vc:Nat→Prop}{ws:List WS}{ms:List fN}{s:Nat}{D:List Nat}
theorem bq.KY(h:bq C gs w t V ws ms s D)(hn:∀op∈u,op.act.touch? = none)(hw:Wordless u)(hl:∀op∈u,op.act.low w.heap.size):bq C gs w (t++u) V ws ms s D:=
 ⟨h.size,h.at_,h.chan,h.msgs,h.perm,h.room,h.lt,h.disj,fun h' V' hh=>(h.own h' V' hh).mute hn,h.tra.mute (g:=0) hn hw hl,fun i a ha hm=>by
  rcases db ha with⟨hi,ha'⟩ | ⟨op,hop,hx,hxa,_⟩
  ·rcases h.all i a ha' hm with h1 | ⟨j,k,g,w0,V0,h1,h2⟩ | ⟨j,h1,h2⟩
   ·exact .inl (h1.app _)
   ·exact .inr (.inl ⟨j,k,g,w0,V0,h1,by simpa[Trace.g?,getElem?_append_old hi] using h2⟩)
   ·exact .inr (.inr ⟨j,h1,h2.app _⟩)
  ·rw[hn op hop] at hxa;cases hxa⟩
theorem bq.CP(h:bq C gs w t V ws ms s D)(g':Goroutine):bq C (gs.setIfInBounds 0 g') w t V ws ms s D:=
 ⟨by simpa using h.size,fun i x hx=>let⟨g,h1,h2⟩:=h.at_ i x hx;⟨g,by rw[Array.getElem?_setIfInBounds_ne (by omega)];exact h1,h2⟩,h.chan,h.msgs,h.perm,h.room,h.lt,h.disj,h.own,h.tra,h.all⟩
theorem bA.quit{i n m:Nat}{r:Nat}(hx:ws[i]? = some (.quit n)){h':Who}{V':Nat→Prop}(hh:bA (ws.set i (.quit m)) ms r V h' V'):bA ws ms r V h' V':=by
 cases hh with
 | main=>exact .main
 | @act j k2 g2 w2 V2 hj=>
  by_cases e:i=j
  ·subst e
   rw[List.getElem?_set_self (List.getElem?_eq_some_iff.1 hx).1] at hj
   cases hj
  ·rw[List.getElem?_set_ne e] at hj
   exact .act hj
 | msg hj=>exact .msg hj
theorem bq.slip(h:bq C gs w t V ws ms s D){i n m:Nat}{g':Goroutine}(hx:ws[i]? = some (.quit n))(hq:eG C.P m g'):bq C (gs.setIfInBounds (i+1) g') w t V (ws.set i (.quit m)) ms s D:=by
 have hil:=(List.getElem?_eq_some_iff.1 hx).1
 refine⟨by simpa using h.size,fun j x hj=>?_,h.chan,h.msgs,?_,h.room,fun h' V' hh=>h.lt h' V' (hh.quit hx),fun h1 h2 V1 V2 hh1 hh2=>h.disj h1 h2 V1 V2 (hh1.quit hx) (hh2.quit hx),fun h' V' hh=>h.own h' V' (hh.quit hx),h.tra,fun j a ha hm=>?_⟩
 ·by_cases e:i=j
  ·subst e
   rw[List.getElem?_set_self hil] at hj
   cases hj
   exact⟨g',by rw[Array.getElem?_setIfInBounds_self_of_lt (by have:=h.size;omega)],hq⟩
  ·rw[List.getElem?_set_ne e] at hj
   obtain⟨g1,h1,h2⟩:=h.at_ j x hj
   exact⟨g1,by rw[Array.getElem?_setIfInBounds_ne (by omega)];exact h1,h2⟩
 ·obtain⟨l₁,l₂,e1,e2⟩:=getElem?_acts hx
  have:=h.perm
  rw[e1] at this;rw[e2];exact this
 ·rcases h.all j a ha hm with h1 | ⟨j',k',g1,w1,V1,h1,h2⟩ | h1
  ·exact .inl h1
  ·refine .inr (.inl ⟨j',k',g1,w1,V1,?_,h2⟩)
   by_cases e:i=j'
   ·subst e;rw[hx] at h1;cases h1
   ·rw[List.getElem?_set_ne e];exact h1
  ·exact .inr (.inr h1)
theorem bA.rZ{i n k:Nat}{g:Goroutine}{w0:World}{V0:Nat→Prop}{m:fN}{r:Nat}(hx:ws[i]? = some (.act k g w0 V0)){h':Who}{V':Nat→Prop}(hh:bA (ws.set i (.quit n)) (ms++[m]) r V h' V') :
  (h'= .m (r+ms.length)∧V'=m.V)∨(bA ws ms r V h' V'∧h'≠ .g (i+1)∧h'≠ .m (r+ms.length)):=by
 cases hh with
 | main=>exact .inr ⟨.main,by simp,by simp⟩
 | @act j k2 g2 w2 V2 hj=>
  by_cases e:i=j
  ·subst e
   rw[List.getElem?_set_self (List.getElem?_eq_some_iff.1 hx).1] at hj
   cases hj
  ·rw[List.getElem?_set_ne e] at hj
   exact .inr ⟨.act hj,by simp;omega,by simp⟩
 | @msg j m' hj=>
  rcases Nat.lt_or_ge j ms.length with hlt | hge
  ·rw[List.getElem?_append_left hlt] at hj
   exact .inr ⟨.msg hj,by simp,by simp;omega⟩
  ·rw[List.getElem?_append_right hge] at hj
   have:j-ms.length=0:=by
    have:=(List.getElem?_eq_some_iff.1 hj).1
    simp at this;omega
   rw[this] at hj
   simp at hj
   subst hj
   exact .inl ⟨by congr 1;omega,rfl⟩
theorem bq.rZ(h:bq C gs w t V ws ms s D){i k n:Nat}{g g':Goroutine}{v:Value}{w0:World}{V0:Nat→Prop}(hx:ws[i]? = some (.act k g w0 V0))(hM:C.Msg k v w V0)(hq:eG C.P n g')
  (hn:∀op∈u,op.act.touch? = none) (hw:Wordless u) (hl:∀op∈u,op.act.low w.heap.size) {q:Nat} {z:MemOp} (hz:(t++u)[q]? = some z) (hzs:t.size≤q) (hza:z.act= .send C.c (D.length+ms.length)) (hzg:z.g=i+1) :
  bq C (gs.setIfInBounds (i+1) g') (w.setChan C.c C.cap ((ms.map (·.v)).toArray.push v) false (D.length+ms.length+1) D.length C.tm) (t++u) V (ws.set i (.quit n)) (ms++[⟨k,v,w,V0⟩]) s D:=by
 have hil:=(List.getElem?_eq_some_iff.1 hx).1
 have hc:=(Array.getElem?_eq_some_iff.1 h.chan).1
 have hme:=h.lt _ _ (.act hx)
 have hrel:∀h' V',bA ws ms D.length V h' V'→Rel V' w (w.setChan C.c C.cap ((ms.map (·.v)).toArray.push v) false (D.length+ms.length+1) D.length C.tm):=fun h' V' hh=>fw fun b hb=>(h.lt _ _ hh b hb).2
 have hsz:(w.setChan C.c C.cap ((ms.map (·.v)).toArray.push v) false (D.length+ms.length+1) D.length C.tm).heap.size=w.heap.size:=by simp[World.setChan]
 have h2:=h.KY hn hw hl
 have know:∀{j:Nat},Knows t (i+1) j→Kn C.c (t++u) (.m (D.length+ms.length)) j:=fun hk=>⟨q,z,hz,hza,.inr (hk.hb_new hzs hz hzg)⟩
 refine⟨by simpa using h.size,fun j x hj=>?_,?_,fun m hm=>?_,?_,h.room,fun h' V' hh b hb=>?_,fun h1 h2' V1 V2 hh1 hh2 hne b hb1 hb2=>?_,fun h' V' hh=>?_,?_,fun j a ha hm=>?_⟩
 ·by_cases e:i=j
  ·subst e
   rw[List.getElem?_set_self hil] at hj
   cases hj
   exact⟨g',by rw[Array.getElem?_setIfInBounds_self_of_lt (by have:=h.size;omega)],hq⟩
  ·rw[List.getElem?_set_ne e] at hj
   obtain⟨g1,h1,h3⟩:=h.at_ j x hj
   refine⟨g1,by rw[Array.getElem?_setIfInBounds_ne (by omega)];exact h1,h3.rel fun k g' w0 V' e'=>?_⟩
   subst e'
   exact hrel _ _ (.act hj)
 ·simp only[World.setChan]
  rw[Array.getElem?_setIfInBounds_self_of_lt hc]
  simp[Nat.add_assoc]
 ·rw[List.mem_append] at hm
  rcases hm with hm | hm
  ·obtain⟨j,hj⟩:=List.getElem?_of_mem hm
   exact⟨(h.msgs m hm).1,(h.msgs m hm).2.trans (hrel _ _ (.msg hj))⟩
  ·simp at hm;subst hm
   exact⟨hM,hrel _ _ (.act hx)⟩
 ·obtain⟨l₁,l₂,e1,e2⟩:=getElem?_acts hx
  have hp:=h.perm
  rw[e1] at hp;rw[e2]
  refine List.Perm.trans ?_ hp
  simp only[WS.key,Option.toList,List.append_nil,List.map_append,List.map_cons,List.map_nil,List.append_assoc]
  refine List.Perm.append_left _ ?_
  have e1:l₂++(ms.map (·.k)++([k]++D))=(l₂++ms.map (·.k))++([k]++D):=by simp
  have e2:[k]++(l₂++(ms.map (·.k)++D))=[k]++((l₂++ms.map (·.k))++D):=by simp
  rw[e1,e2]
  simp only[List.singleton_append]
  exact List.perm_middle
 ·rw[hsz]
  rcases hh.rZ hx with⟨rfl,rfl⟩ | ⟨hh,_⟩
  ·exact hme b hb
  ·exact h.lt _ _ hh b hb
 ·rcases hh1.rZ hx with⟨rfl,rfl⟩ | ⟨kk1,n1,m1⟩<;> rcases hh2.rZ hx with⟨rfl,rfl⟩ | ⟨kk2,n2,m2⟩
  ·exact absurd rfl hne
  ·exact h.disj _ _ _ _ (.act hx) kk2 (Ne.symm n2) b hb1 hb2
  ·exact h.disj _ _ _ _ kk1 (.act hx) n1 b hb1 hb2
  ·exact h.disj _ _ _ _ kk1 kk2 hne b hb1 hb2
 ·rcases hh.rZ hx with⟨rfl,rfl⟩ | ⟨hh,_⟩
  ·intro j a b ha hb hv
   rcases db ha with⟨_,ha'⟩ | ⟨op,hop,_,hxa,_⟩
   ·exact(h.own _ _ (.act hx) j a b ha' hb hv).imp id know
   ·rw[hn op hop] at hxa;cases hxa
  ·exact h2.own _ _ hh
 ·rw[hsz];exact h2.tra
 ·rcases h2.all j a ha hm with h1 | ⟨j',k',g1,w1,V1,h1,h3⟩ | ⟨j',h1,h3⟩
  ·exact .inl h1
  ·by_cases e:i=j'
   ·subst e
    refine .inr (.inr ⟨ms.length,by simp,?_⟩)
    rcases db ha with⟨hj,ha'⟩ | ⟨op,hop,_,hxa,_⟩
    ·obtain⟨y,hy,hyg⟩:=Option.map_eq_some_iff.1 h3
     have hy':t[j]? = some y:=by rw[← getElem?_append_old (u:=u) hj];exact hy
     have:=knows_own hy'
     rw[hyg] at this
     exact know this
    ·rw[hn op hop] at hxa;cases hxa
   ·exact .inr (.inl ⟨j',k',g1,w1,V1,by rw[List.getElem?_set_ne e];exact h1,h3⟩)
  ·exact .inr (.inr ⟨j',by simp;omega,h3⟩)
theorem bA.got{m:fN}{r:Nat}{h':Who}{V':Nat→Prop}(hh:bA ws ms (r+1) (fun b=>V b∨m.V b) h' V') :
  (h'= .g 0∧V'=fun b=>V b∨m.V b)∨(bA ws (m::ms) r V h' V'∧h'≠ .g 0∧h'≠ .m r):=by
 cases hh with
 | main=>exact .inl ⟨rfl,rfl⟩
 | act hj=>exact .inr ⟨.act hj,by simp,by simp⟩
 | @msg j m' hj=>
  refine .inr ⟨?_,by simp,by simp;omega⟩
  have:bA ws (m::ms) r V (.m (r+(j+1))) m'.V:= .msg (by simpa using hj)
  rwa [show r+(j+1)=r+1+j by omega] at this
theorem bq.got{m:fN}(h:bq C gs w t V ws (m::ms) s D)(hk:∀i,Kn C.c t (.m D.length) i→Knows t 0 i) :
  bq C gs (w.setChan C.c C.cap (ms.map (·.v)).toArray false (D.length+ms.length+1) (D.length+1) C.tm) t (fun b=>V b∨m.V b) ws ms s (m.k::D):=by
 have hc:=(Array.getElem?_eq_some_iff.1 h.chan).1
 have hrel:∀h' V',bA ws (m::ms) D.length V h' V'→Rel V' w (w.setChan C.c C.cap (ms.map (·.v)).toArray false (D.length+ms.length+1) (D.length+1) C.tm):=fun h' V' hh=>fw fun b hb=>(h.lt _ _ hh b hb).2
 have hsz:(w.setChan C.c C.cap (ms.map (·.v)).toArray false (D.length+ms.length+1) (D.length+1) C.tm).heap.size=w.heap.size:=by simp[World.setChan]
 have hm0:bA ws (m::ms) D.length V (.m D.length) m.V:=by
  have:bA ws (m::ms) D.length V (.m (D.length+0)) m.V:= .msg (by simp)
  simpa using this
 refine⟨h.size,fun j x hj=>?_,?_,fun m' hm=>?_,?_,h.room,fun h' V' hh b hb=>?_,fun h1 h2' V1 V2 hh1 hh2 hne b hb1 hb2=>?_,fun h' V' hh=>?_,?_,fun j a ha hm=>?_⟩
 ·obtain⟨g1,h1,h3⟩:=h.at_ j x hj
  refine⟨g1,h1,h3.rel fun k g' w0 V' e'=>?_⟩
  subst e'
  exact hrel _ _ (.act hj)
 ·simp only[World.setChan]
  rw[Array.getElem?_setIfInBounds_self_of_lt hc]
  simp;omega
 ·obtain⟨j,hj⟩:=List.getElem?_of_mem hm
  exact⟨(h.msgs m' (by simp[hm])).1,(h.msgs m' (by simp[hm])).2.trans (hrel _ _ (.msg (j:=j+1) (by simpa using hj)))⟩
 ·refine List.Perm.trans ?_ h.perm
  refine List.Perm.append_left _ ?_
  simp only[List.map_cons,List.cons_append]
  exact List.perm_middle
 ·rw[hsz]
  rcases hh.got with⟨rfl,rfl⟩ | ⟨hh,_⟩
  ·rcases hb with hb | hb
   ·exact h.lt _ _ .main b hb
   ·exact h.lt _ _ hm0 b hb
  ·exact h.lt _ _ hh b hb
 ·rcases hh1.got with⟨rfl,rfl⟩ | ⟨hh1,n1,m1⟩<;> rcases hh2.got with⟨rfl,rfl⟩ | ⟨hh2,n2,m2⟩
  ·exact absurd rfl hne
  ·rcases hb1 with hb1 | hb1
   ·exact h.disj _ _ _ _ .main hh2 (Ne.symm n2) b hb1 hb2
   ·exact h.disj _ _ _ _ hm0 hh2 (Ne.symm m2) b hb1 hb2
  ·rcases hb2 with hb2 | hb2
   ·exact h.disj _ _ _ _ hh1 .main n1 b hb1 hb2
   ·exact h.disj _ _ _ _ hh1 hm0 m1 b hb1 hb2
  ·exact h.disj _ _ _ _ hh1 hh2 hne b hb1 hb2
 ·rcases hh.got with⟨rfl,rfl⟩ | ⟨hh,_⟩
  ·intro j a b ha hb hv
   rcases hv with hv | hv
   ·exact h.own _ _ .main j a b ha hb hv
   ·exact(h.own _ _ hm0 j a b ha hb hv).imp id (hk j)
  ·exact h.own _ _ hh
 ·rw[hsz];exact h.tra
 ·rcases h.all j a ha hm with h1 | h1 | ⟨j',h1,h3⟩
  ·exact .inl h1
  ·exact .inr (.inl h1)
  ·cases j' with
   | zero=>exact .inl (hk j (by simpa using h3))
   | succ j'=>
    refine .inr (.inr ⟨j',by simpa using h1,?_⟩)
    have e:(m.k::D).length+j'=D.length+(j'+1):=by simp;omega
    rw[e];exact h3
theorem tc{c k i j:Nat}{y:MemOp}(hw:Wordless t)(hk:Kn c t (.m k) i)(hj:t[j]? = some y)(hya:y.act= .recvDone c k):Knows t y.g i:=by
 obtain⟨q,z,h1,h2,h3⟩:=hk
 refine⟨j,y,hj,rfl,h3.trans (.inr (.single (.inr ⟨.handOver (c:=c) (k:=k) (by rw[act?_of h1,h2]) (by rw[act?_of hj,hya]),hw.heard h1,hw.heard hj⟩)))⟩
theorem Bn{p i j:Nat}{x y:MemOp}(hw:Wordless (t++u))(hk:Knows t x.g i)(hi:(t++u)[j]? = some x)(hj:t.size≤j)(hx:x.act= .go p){l:Nat}(hl:(t++u)[l]? = some y)(hy:y.act= .start)(hyg:y.g=p):Knows (t++u) p i:=by
 have h1:=hk.hb_new hj hi rfl
 refine⟨l,y,hl,hyg,.inr (h1.trans (.single (.inr ⟨.spawn (child:=p) (by rw[act?_of hi,hx]) (by rw[act?_of hl,hy]) (by simp[Trace.g?,hl,hyg]),hw.heard hi,hw.heard hl⟩)))⟩
theorem bA.born{k:Nat}{child:Goroutine}{w0:World}{r:Nat}{h':Who}{V':Nat→Prop}(hh:bA (ws++[.act k child w0 Vc]) ms r V₁ h' V') :
  (h'= .g 0∧V'=V₁)∨(h'= .g (ws.length+1)∧V'=Vc)∨(bA ws ms r V h' V'∧h'≠ .g 0∧h'≠ .g (ws.length+1)):=by
 cases hh with
 | main=>exact .inl ⟨rfl,rfl⟩
 | @act j k2 g2 w2 V2 hj=>
  rcases Nat.lt_or_ge j ws.length with hlt | hge
  ·rw[List.getElem?_append_left hlt] at hj
   exact .inr (.inr ⟨.act hj,by simp,by simp;omega⟩)
  ·rw[List.getElem?_append_right hge] at hj
   have:j-ws.length=0:=by
    have:=(List.getElem?_eq_some_iff.1 hj).1
    simp at this;omega
   rw[this] at hj
   simp at hj
   obtain⟨_,_,_,rfl⟩:=hj
   exact .inr (.inl ⟨by congr 1;omega,rfl⟩)
 | msg hj=>exact .inr (.inr ⟨.msg hj,by simp,by simp⟩)
theorem bq.born(h:bq C gs w t V ws ms s D){child:Goroutine}(hT:WT C.P C.Sh C.c (C.Msg s) child w Vc)(hs:s+1≤C.cap)(h1:∀b,V₁ b→V b)(h2:∀b,Vc b→V b)(h12:∀b,V₁ b→Vc b→C.Sh b)
  {x y:MemOp} (hx:x.g=0∧x.act= .go (ws.length+1)) (hy:y.g=ws.length+1∧y.act= .start) :
  bq C (gs.push child) w (t++#[x,y]) V₁ (ws++[.act s child w Vc]) ms (s+1) D:=by
 have hn:∀op∈#[x,y],op.act.touch? = none:=by
  intro op hop
  simp only[List.mem_toArray,List.mem_cons,List.not_mem_nil,or_false] at hop
  rcases hop with rfl | rfl
  ·rw[hx.2];rfl
  ·rw[hy.2];rfl
 have hwl:Wordless #[x,y]:=by
  intro op hop m
  simp only[List.mem_toArray,List.mem_cons,List.not_mem_nil,or_false] at hop
  rcases hop with rfl | rfl
  ·rw[hx.2];simp
  ·rw[hy.2];simp
 have hlow:∀op∈#[x,y],op.act.low w.heap.size:=by
  intro op hop
  simp only[List.mem_toArray,List.mem_cons,List.not_mem_nil,or_false] at hop
  rcases hop with rfl | rfl
  ·rw[hx.2];trivial
  ·rw[hy.2];trivial
 have h3:=h.KY hn hwl hlow
 have hxi:(t++#[x,y])[t.size]? = some x:=by rw[Array.getElem?_append_right (Nat.le_refl _)];simp
 have hyi:(t++#[x,y])[t.size+1]? = some y:=by rw[Array.getElem?_append_right (Nat.le_succ _)];simp
 have know:∀{i:Nat},Knows t 0 i→Knows (t++#[x,y]) (ws.length+1) i:=fun hk=>Bn h3.tra.wordless (by rw[hx.1];exact hk) hxi (Nat.le_refl _) hx.2 hyi hy.2 hy.1
 have hne:Who.g 0≠ .g (ws.length+1):=by simp
 have hwsl:∀{j:Nat} {x:WS},ws[j]? = some x→(ws++[WS.act s child w Vc])[j]? = some x:=fun hj=>by
  rw[List.getElem?_append_left (List.getElem?_eq_some_iff.1 hj).1];exact hj
 refine⟨by simp[h.size],fun j x hj=>?_,h.chan,h.msgs,?_,hs,fun h' V' hh b hb=>?_,fun i1 i2 V1 V2 hh1 hh2 hne b hb1 hb2=>?_,fun h' V' hh=>?_,h3.tra,fun j a ha hm=>?_⟩
 ·rcases Nat.lt_or_ge j ws.length with hlt | hge
  ·rw[List.getElem?_append_left hlt] at hj
   obtain⟨g1,h1,h3⟩:=h.at_ j x hj
   exact⟨g1,by rw[Array.getElem?_push_lt (by have:=h.size;omega)];rw[Array.getElem?_eq_getElem (by have:=h.size;omega)] at h1;exact h1,h3⟩
  ·rw[List.getElem?_append_right hge] at hj
   have:j-ws.length=0:=by
    have:=(List.getElem?_eq_some_iff.1 hj).1
    simp at this;omega
   rw[this] at hj
   simp at hj;subst hj
   have e:j+1=gs.size:=by have:=h.size;omega
   exact⟨child,by rw[e];simp,rfl,hT,.refl _ _⟩
 ·have e:fH (ws++[WS.act s child w Vc])=fH ws++[s]:=by simp[fH,WS.key]
  rw[e,List.range_succ]
  have hp:=h.perm
  have:(fH ws++[s]++(ms.map (·.k)++D)).Perm ((fH ws++(ms.map (·.k)++D))++[s]):=by
   rw[List.append_assoc,List.append_assoc]
   exact List.Perm.append_left _ List.perm_append_comm
  exact this.trans (hp.append_right _)
 ·rcases hh.born (V:=V) with⟨rfl,rfl⟩ | ⟨rfl,rfl⟩ | ⟨hh,_⟩
  ·exact h.lt _ _ .main b (h1 b hb)
  ·exact h.lt _ _ .main b (h2 b hb)
  ·exact h.lt _ _ hh b hb
 ·rcases hh1.born (V:=V) with⟨rfl,rfl⟩ | ⟨rfl,rfl⟩ | ⟨kk1,n1,_⟩<;> rcases hh2.born (V:=V) with⟨rfl,rfl⟩ | ⟨rfl,rfl⟩ | ⟨kk2,n2,_⟩
  ·exact absurd rfl hne
  ·exact h12 b hb1 hb2
  ·exact h.disj _ _ _ _ .main kk2 (Ne.symm n2) b (h1 b hb1) hb2
  ·exact h12 b hb2 hb1
  ·exact absurd rfl hne
  ·exact h.disj _ _ _ _ .main kk2 (Ne.symm n2) b (h2 b hb1) hb2
  ·exact h.disj _ _ _ _ kk1 .main n1 b hb1 (h1 b hb2)
  ·exact h.disj _ _ _ _ kk1 .main n1 b hb1 (h2 b hb2)
  ·exact h.disj _ _ _ _ kk1 kk2 hne b hb1 hb2
 ·rcases hh.born (V:=V) with⟨rfl,rfl⟩ | ⟨rfl,rfl⟩ | ⟨hh,_⟩
  ·exact fun j a b ha hb hv=>h3.own _ _ .main j a b ha hb (h1 b hv)
  ·intro j a b ha hb hv
   rcases db ha with⟨_,ha'⟩ | ⟨op,hop,_,hxa,_⟩
   ·exact(h.own _ _ .main j a b ha' hb (h2 b hv)).imp id know
   ·rw[hn op hop] at hxa;cases hxa
  ·exact h3.own _ _ hh
 ·rcases h3.all j a ha hm with h1 | ⟨j',k',g1,w1,V1,h1,h4⟩ | h1
  ·exact .inl h1
  ·exact .inr (.inl ⟨j',k',g1,w1,V1,hwsl h1,h4⟩)
  ·exact .inr (.inr h1)
theorem bq.shrink(h:bq C gs w t V ws ms s D)(hV:∀b,V₁ b→V b):bq C gs w t V₁ ws ms s D:=by
 have hinv:∀h' V',bA ws ms D.length V₁ h' V'→∃V'',bA ws ms D.length V h' V''∧∀b,V' b→V'' b:=by
  intro h' V' hh
  cases hh with
  | main=>exact⟨V,.main,hV⟩
  | act hx=>exact⟨_,.act hx,fun _ h=>h⟩
  | msg hx=>exact⟨_,.msg hx,fun _ h=>h⟩
 refine⟨h.size,h.at_,h.chan,h.msgs,h.perm,h.room,fun h' V' hh b hb=>?_,fun h1 h2 V1 V2 hh1 hh2 hne b hb1 hb2=>?_,fun h' V' hh i a b ha hb hv=>?_,h.tra,h.all⟩
 ·obtain⟨V'',k1,k2⟩:=hinv _ _ hh
  exact h.lt _ _ k1 b (k2 b hb)
 ·obtain⟨V3,k1,k2⟩:=hinv _ _ hh1
  obtain⟨V4,k3,k4⟩:=hinv _ _ hh2
  exact h.disj _ _ _ _ k1 k3 hne b (k2 b hb1) (k4 b hb2)
 ·obtain⟨V'',k1,k2⟩:=hinv _ _ hh
  exact h.own _ _ k1 i a b ha hb (k2 b hv)
end
end Go.Mu
namespace Go.Mu
open Go Go.Conc
section
variable {C:Crw}{gs:Array Goroutine}{w w':World}{t u:Trace}{V V₁ Vc:Nat→Prop}{ws:List WS}{ms:List fN}{s:Nat}{D:List Nat}{g:Goroutine}{sl:Option (Nat×Nat)}
theorem bq.acc(h:bq C gs w t V ws ms s D):Acc (RL (WS.r C.P) WS.E) ws:=by
 refine RL.acc (WS.closed C.P) WS.trans fun x hx=>?_
 obtain⟨i,hi⟩:=List.getElem?_of_mem hx
 obtain⟨g,_,hg⟩:=h.at_ i x hi
 cases x with
 | act k g' w' V'=>exact hg.1▸hg.2.1.acc k
 | quit n=>exact WS.rG C.P n
theorem WS.P8(x:WS):WS.E x x:=by
 cases x with
 | act k g w V=>exact⟨rfl,rfl,rfl,.refl _ _⟩
 | quit n=>rfl
theorem RL.qg{P:Program}{i:Nat}{x y:WS}(hx:ws[i]? = some x)(hr:WS.r P y x):RL (WS.r P) WS.E (ws.set i y) ws:=by
 refine⟨by simp,i,⟨y,x,List.getElem?_set_self (List.getElem?_eq_some_iff.1 hx).1,hx,hr⟩,fun j hj a b ha hb=>?_⟩
 rw[List.getElem?_set_ne (Ne.symm hj),hb] at ha
 cases ha
 exact WS.P8 _
theorem bq.LK(h:bq C gs w t V ws ms s D){i k:Nat}{g:Goroutine}{w0:World}{V0:Nat→Prop}(hx:ws[i]? = some (.act k g w0 V0)):ms.length+D.length+1≤C.cap:=by
 have:=h.perm.length_eq
 have hr:=h.room
 obtain⟨l₁,l₂,e1,_⟩:=getElem?_acts hx
 rw[e1] at this
 simp[WS.key] at this
 omega
theorem bq.awake(h:bq C gs w t V ws ms s D)(h0:gs[0]? = some g)(hg:awake g):∀g∈gs,awake g:=by
 intro x hx
 obtain⟨i,hi⟩:=Array.getElem?_of_mem hx
 cases i with
 | zero=>rw[h0] at hi;cases hi;exact hg
 | succ i=>
  obtain⟨y,_,hy⟩:=h.get hi
  exact awake_of (hy.status.elim .inl fun h=> .inr (.inr h))
theorem bq.offers(h:bq C gs w t V ws ms s D){i:Nat}{x:Goroutine}(hi:i≠0)(hx:gs[i]? = some x)(r:Nat)(send:Bool):offersAt x r send=[]:=by
 cases i with
 | zero=>exact absurd rfl hi
 | succ i=>
  obtain⟨y,_,hy⟩:=h.get hx
  exact offersAt_of_not_blocked (by rcases hy.status with e | e<;> rw[e]<;> simp) r send
theorem bq.other(h:bq C gs w t V ws ms s D)(h0:gs[0]? = some g)(hg:g.status= .running){i:Nat}{g1:Goroutine}(hi:gs[i+1]? = some g1)(hr:g1.status= .running) :
  ∃gs' w' ops ws' ms',runT C.P (crowd gs w sl) (i+1)=(.next (crowd gs' w' sl),ops)∧gs'[0]? = some g∧bq C gs' w' (t++ops) V ws' ms' s D∧RL (WS.r C.P) WS.E ws' ws∧Rel V w w':=by
 obtain⟨x,hx,hat⟩:=h.get hi
 have hi0:((i+1:Nat)==0)=false:=by simp
 have set0:∀y:Goroutine,(gs.setIfInBounds (i+1) y)[0]? = some g:=fun y=>by rw[Array.getElem?_setIfInBounds_ne (by omega)];exact h0
 have calm:∀(a a':Goroutine) (w₁:World),gs.map (woken C.P a a' w₁)=gs:=fun a a' w₁=>h.calm w₁ h0 (jA (.inl hg))
 cases x with
 | act k g2 w0 V0=>
  obtain⟨rfl,hT,hrel⟩:=hat
  have hdis:∀b,V0 b→V b→C.Sh b:=fun b h1 h2=>h.disj _ _ _ _ (.act hx) .main (by simp) b h1 h2
  unfold WT at hT
  cases hT with
  | step h1 h2 h3=>
   obtain⟨g',w',es,hst,hG⟩:=h2 w hrel
   have hrun:=runT_crowd_go (P:=C.P) (sl:=sl) (i:=i+1) hi (by rw[hi0];exact hst)
   rw[calm] at hrun
   exact⟨_,_,_,_,_,hrun,set0 _,h.work hx hG (h3 w g' w' es hrel hst),.qg hx ⟨w,es,hrel,hst,rfl,rfl⟩,lf hG hdis⟩
  | ret hs=>
   obtain⟨g₂,v,z,es,hst,hG,hM,n,hq⟩:=hs.2 w hrel
   have hroom:=h.LK hx
   have hp:partners (gs.setIfInBounds (i+1) ph) C.c false=[]:=by
    refine partners_nil fun j y hj=>?_
    rcases getElem?_stand gs (i+1) j y hj with⟨_,rfl⟩ | ⟨_,hj⟩
    ·exact offersAt_ph _ _
    ·by_cases e:j=0
     ·subst e;rw[h0] at hj;cases hj
      exact offersAt_of_not_blocked (by rw[hg];simp) _ _
     ·exact h.offers e hj _ _
   have hrun:=crowd_send_room (P:=C.P) (sl:=sl) hi (by rw[hi0];exact hst) h.chan (by simp;omega) hp
   rw[finishComm_send] at hrun
   have hT':WT C.P C.Sh C.c (C.Msg k) g2 w (ct V0 w.heap.size w.heap.size):=by
    rw[bk];exact WT.rely (CoJ.ret hs) hrel
   have hW:=h.work (g':=g2) (fn:=g2.frame.fn) (pos:=g2.frame.place) hx hG hT'
   rw[bk] at hW
   have hgs:gs.setIfInBounds (i+1) g2=gs:=by
    apply Array.ext_getElem?
    intro j
    by_cases e:i+1=j
    ·subst e;rw[Array.getElem?_setIfInBounds_self_of_lt (Array.getElem?_eq_some_iff.1 hi).1,hi]
    ·rw[Array.getElem?_setIfInBounds_ne e]
   rw[hgs] at hW
   have hxs:=List.getElem?_set_self (a:=WS.act k g2 w V0) (List.getElem?_eq_some_iff.1 hx).1
   have hc:=(Array.getElem?_eq_some_iff.1 h.chan).1
   have hS:=hW.rZ (u:=#[{g:=i+1,fn:=g₂.frame.fn,pos:=g₂.frame.place,act:= .send C.c (D.length+ms.length)},{g:=i+1,fn:=g₂.frame.fn,pos:=g₂.frame.place,act:= .sendDone C.c (D.length+ms.length)}])
    (n:=n) (g':=Conc.served g₂ undef) (v:=v) hxs hM hq
    (by intro op hop;simp at hop;rcases hop with rfl | rfl<;> rfl) (by intro op hop m;simp at hop;rcases hop with rfl | rfl<;> simp) (by intro op hop;simp at hop;rcases hop with rfl | rfl<;> exact hc)
    (q:=(t++MemOp.ofEvents (i+1) g2.frame.fn g2.frame.place es).size) (by rw[Array.getElem?_append_right (Nat.le_refl _)];simp;rfl) (Nat.le_refl _) rfl rfl
   rw[List.set_set,Array.append_assoc] at hS
   exact⟨_,_,_,_,_,hrun,set0 _,hS,.qg hx trivial,fw fun b hb=>(h.lt _ _ .main b hb).2⟩
 | quit n=>
  cases n with
  | zero=>rw[show g1.status= .finished from hat] at hr;cases hr
  | succ n=>
   rcases hat with hf | ⟨_,g',hst,hq⟩
   ·rw[hf] at hr;cases hr
   have hrun:=runT_crowd_go (P:=C.P) (sl:=sl) (i:=i+1) hi (by rw[hi0];exact hst w)
   rw[calm] at hrun
   have e:MemOp.ofEvents (i+1) g1.frame.fn g1.frame.place #[]= #[]:=by rw[ofEvents_eq];simp
   rw[e] at hrun
   exact⟨_,_,_,_,_,hrun,set0 _,by rw[Array.append_empty];exact h.slip hx hq,.qg (y:= .quit n) hx (Nat.lt_succ_self n),.refl _ _⟩
end
end Go.Mu
