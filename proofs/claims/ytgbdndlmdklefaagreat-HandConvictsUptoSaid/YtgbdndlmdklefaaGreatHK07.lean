/- Part N of the abstract layer: statements are sound, in whatever company. -/
import Derived.Test.YtgbdndlmdklefaaGreatHK06
import Derived.Laws.Cover3
import Derived.OrdersIn
set_option linter.unusedSimpArgs false
set_option linter.unusedVariables false
namespace Go.Mu
open Go Go.Conc
variable {E:Env}{ro:Option Nat}{K:Kr}{n:Nat}
def cz(E:Env)(all os:List Oper)(dst:Option Tmp)(fr:Fr)(Q:Fr→List aa→Prop)(v:AV)(σ:List aa):Prop:=
 match dst with
 | none=>cX E all os fr σ Q
 | some d=>d<E.N∧cX E all os (fr.put d v) σ Q
theorem jj(E:Env)(all os:List Oper)(o:Oper)(fr:Fr)(σ:List aa)(Q:Fr→List aa→Prop):cX E all (o::os) fr σ Q =
  match bK all fr o.guard with
  | none=>False
  | some b=>(b=true→aP E fr σ o.type o.op (cz E all os o.dst fr Q))∧(b=false→cz E all os o.dst fr Q (.tup []) σ):=rfl
def mS(E:Env)(Sh V:Nat→Prop)(K:Kr)(σ:List aa)(w:World)(ds:List Deferred)(Q:Fr→List aa→Prop)(a:Act)(w':World)(V':Nat→Prop):Prop:=
 ∃K' σ' fr',Q fr' σ'∧R K' σ' w'∧aU Sh V' K' σ' w'∧FR K' σ'.length E.N fr' a.tmps∧aI V K σ w V' K' σ' w'∧a.defers=ds
theorem put_defers(a:Act)(d:Option Tmp)(v:Value):(a.put d v).defers=a.defers:=by cases d<;> rfl
/-! ### the model's steps -/
section
variable {P:Program}{main:Bool}{b:Frame}{a:Act}{k:List Item}{cs:List Frame}{w w':World}{ops:Array Oper}{i:Nat}{rest:List Nat}{o:Oper}
theorem iS(ho:ops[i]? = some o)(hw:Region.wanted o (yielded ops a.tmps)=true)(hnd:∀c,o.op≠ .defer c) :
  stepG P main (G (b.atR a (.inRegion ops (i::rest)::k)) cs) w=stepG.apply P true (b.atR a (.inRegion ops (i::rest)::k)) cs none (execOp a.eval o) w:=by
 have he:=Frame.eval_atR b a (.inRegion ops (i::rest)::k)
 simp only[Frame.atR] at he
 simp only[G,stepG,stepG.exec,Frame.atR,ho,hw,Option.map_some,Option.getD_some,if_true,stepG.oper,Frame.oper?,he]
 cases b.roundOf with
 | none=>rfl
 | some l=>
  cases hop:o.op with
  | defer c=>exact absurd hop (hnd c)
  | _=>rfl
def lst(P:Program)(b:Frame)(a:Act)(o:Oper)(w:World):Array Event:=seen P b.fn (if b.kind== .early then #[] else(execOp a.eval o).events P w #[])
theorem jX{e:Event}(h:e∈lst P b a o w):e∈(execOp a.eval o).events P w #[]:=by
 have:=mem_seen h
 split at this
 ·simp at this
 ·exact this
theorem pk{v:Value}(ho:ops[i]? = some o)(hw:Region.wanted o (yielded ops a.tmps)=true)(hnd:∀c,o.op≠ .defer c)
  (hr:(execOp a.eval o).run P w= .ok (.value v) w'∨(execOp a.eval o).run P w= .ok .skip w'∧v=undef) :
  stepG P main (G (b.atR a (.inRegion ops (i::rest)::k)) cs) w= .go (G (b.atR (a.put o.dst v) (.inRegion ops rest::k)) cs) w' (lst P b a o w):=by
 have hfin:∀v,(b.atR a (.inRegion ops (i::rest)::k)).finish v=b.atR (a.put o.dst v) (.inRegion ops rest::k):=fun v=>by rw[Frame.finish_atR,ho];rfl
 rw[iS ho hw hnd,← hfin]
 rcases hr with hr | ⟨hr,rfl⟩<;> simp[stepG.apply,hr,G,Frame.atR,GStep.after,lst]
theorem Iw{f:FuncId}{args:Array Value}(ho:ops[i]? = some o)(hw:Region.wanted o (yielded ops a.tmps)=true)(hnd:∀c,o.op≠ .defer c)
  (hr:(execOp a.eval o).run P w= .ok (.enter f args) w') :
  stepG P main (G (b.atR a (.inRegion ops (i::rest)::k)) cs) w= .go (G (Frame.enter P f args .normal) (b.atR a (.inRegion ops (i::rest)::k)::cs)) w' (lst P b a o w):=by
 rw[iS ho hw hnd]
 simp[stepG.apply,hr,G,Frame.atR,GStep.after,lst]
theorem IZ{l:Nat}{f:FuncId}{tmps:Array Value}{as body:Code}(ho:ops[i]? = some o)(hw:Region.wanted o (yielded ops a.tmps)=true)(hnd:∀c,o.op≠ .defer c)
  (hr:(execOp a.eval o).run P w= .ok (.round l f tmps as body) w') :
  stepG P main (G (b.atR a (.inRegion ops (i::rest)::k)) cs) w= .go (G (Frame.round l f tmps as body .normal) (b.atR a (.inRegion ops (i::rest)::k)::cs)) w' (lst P b a o w):=by
 rw[iS ho hw hnd]
 simp[stepG.apply,hr,G,Frame.atR,GStep.after,lst]
theorem Ka(hw:((ops[i]?).map (Region.wanted · (yielded ops a.tmps))).getD false=false) :
  stepG P main (G (b.atR a (.inRegion ops (i::rest)::k)) cs) w= .go (G (b.atR (a.put ((ops[i]?).bind (·.dst)) undef) (.inRegion ops rest::k)) cs) w:=by
 rw[← Frame.finish_atR]
 simp[G,stepG,stepG.exec,Frame.atR,hw]
theorem stepG_leave{fr c:Frame}{v:Value}(hm:fr.mode= .returning)(hd:fr.defers=[])(hk:fr.kind= .normal){fn:Func}(hf:P.funcs[fr.fn]? = some fn)(hr:(results fn fr.tmps).run P w= .ok v w) :
  stepG P main (G fr (c::cs)) w= .go (G (c.finish v) cs) w (seen P fr.fn ((results fn fr.tmps).events P w #[])):=by
 simp[G,stepG,unwind,doReturn,hm,hd,hk,hf,hr,GStep.after]
end
/-! ### an operation -/
section
variable {M:cw E.P}{σ:List aa}{w:World}{V:Nat→Prop}{a:Act}{b:Frame}{cs:List Frame}{k:List Item}{ops:Array Oper}{i:Nat}{rest:List Nat}{o:Oper}{au:Goroutine→World→(Nat→Prop)→Prop}
theorem MM(hR:R K σ w)(hO:aU M.Sh V K σ w)(ho:ops[i]? = some o)(hw:Region.wanted o (yielded ops a.tmps)=true)(hnd:∀c,o.op≠ .defer c)(hT:Tm E.P (execOp a.eval o) Any){X:Value→Kr→List aa→World→World→Prop}
  (hs:∀w₁,R K σ w₁→∃c K' σ' w',((execOp a.eval o).run E.P w₁= .ok (.value c) w'∨(execOp a.eval o).run E.P w₁= .ok .skip w'∧c=undef)∧R K' σ' w'∧Step K σ w₁ K' σ' w'∧X c K' σ' w₁ w')
  (hk:∀c K' σ' w₁ w',Rel V w w₁→R K' σ' w'→aU M.Sh (ct V w₁.heap.size w'.heap.size) K' σ' w'→aI V K σ w (ct V w₁.heap.size w'.heap.size) K' σ' w'→X c K' σ' w₁ w'→M.J (G (b.atR (a.put o.dst c) (.inRegion ops rest::k)) cs) w' (ct V w₁.heap.size w'.heap.size) au) :
  M.J (G (b.atR a (.inRegion ops (i::rest)::k)) cs) w V au:=by
 refine M.step rfl fun w₁ hr=>?_
 have hR1:=hR.rely hO hr
 have hO1:=hO.rely hr
 obtain⟨c,K',σ',w',h1,h2,h3,h4⟩:=hs w₁ hR1
 refine⟨_,_,_,pk ho hw hnd h1,?_,hk c K' σ' w₁ w' hr h2 (hO1.step h2 h3) ((aI.bN hr).trans (.mY h3)) h4⟩
 have hsafe:∀w₀,R K σ w₀→∃x w₀',(execOp a.eval o).run E.P w₀= .ok x w₀':=fun w₀ h₀=>by
  obtain⟨c,K',σ',w',h1,_⟩:=hs w₀ h₀
  rcases h1 with h1 | h1
  ·exact⟨_,_,h1⟩
  ·exact⟨_,_,h1.1⟩
 rcases h1 with h1 | ⟨h1,_⟩
 ·exact qb hT hR1 hO1 hsafe h1 h3 fun e he=>jX he
 ·exact qb hT hR1 hO1 hsafe h1 h3 fun e he=>jX he
theorem u7(hR:R K σ w)(hO:aU M.Sh V K σ w)(ho:ops[i]? = some o)(hw:Region.wanted o (yielded ops a.tmps)=true)(hnd:∀c,o.op≠ .defer c)(hT:Tm E.P (execOp a.eval o) Any){X:Value→Kr→List aa→World→Prop}
  (hs:∀w₁,R K σ w₁→∃c K' σ' w',((execOp a.eval o).run E.P w₁= .ok (.value c) w'∨(execOp a.eval o).run E.P w₁= .ok .skip w'∧c=undef)∧R K' σ' w'∧Step K σ w₁ K' σ' w'∧X c K' σ' w')
  (hk:∀c K' σ' w' V',R K' σ' w'→aU M.Sh V' K' σ' w'→aI V K σ w V' K' σ' w'→X c K' σ' w'→M.J (G (b.atR (a.put o.dst c) (.inRegion ops rest::k)) cs) w' V' au) :
  M.J (G (b.atR a (.inRegion ops (i::rest)::k)) cs) w V au:=
 MM (X:=fun c K' σ' _ w'=>X c K' σ' w') hR hO ho hw hnd hT hs fun c K' σ' _ w' _ h1 h2 h3 h4=>hk c K' σ' w' _ h1 h2 h3 h4
theorem II{fr c:Frame}{X:Value→Prop}{w:World}{V:Nat→Prop}(h:lj M V fr w X)(hk:fr.kind= .normal)(hn:∀w₁ v,Rel V w w₁→X v→M.J (G (c.finish v) cs) w₁ V au):M.J (G fr (c::cs)) w V au:=by
 obtain⟨fn,hf,h2⟩:=h.fn
 refine M.step rfl fun w₁ hr=>?_
 obtain⟨v,h3,h4,h5⟩:=h2 w₁ hr
 refine⟨_,_,_,stepG_leave h.mode h.defers hk hf h3,⟨Nat.le_refl _,fun _ _ _=>rfl,rfl,rfl,rfl,Nat.le_refl _,fun e he=>h5 e (mem_seen he)⟩,?_⟩
 rw[bk];exact hn w₁ v hr h4
theorem GX{g:FuncId}{args:List AV}{X:AV→List aa→Prop}(hcall:nz M g args σ X)(hR:R K σ w)(hO:aU M.Sh V K σ w)(ho:ops[i]? = some o)(hw:Region.wanted o (yielded ops a.tmps)=true)(hnd:∀c,o.op≠ .defer c)
  (hT:Tm E.P (execOp a.eval o) Any) {cargs:Array Value} (hrun:∀w₁,(execOp a.eval o).run E.P w₁= .ok (.enter g cargs) w₁) (hV:VRs K σ.length args cargs.toList)
  (hk:∀v c K' σ' w' V',X v σ'→VR K' σ'.length v c→R K' σ' w'→aU M.Sh V' K' σ' w'→aI V K σ w V' K' σ' w'→M.J (G (b.atR (a.put o.dst c) (.inRegion ops rest::k)) cs) w' V' au) :
  M.J (G (b.atR a (.inRegion ops (i::rest)::k)) cs) w V au:=by
 refine M.step rfl fun w₁ hr=>?_
 have hR1:=hR.rely hO hr
 have hO1:=hO.rely hr
 refine⟨_,_,_,Iw ho hw hnd (hrun w₁),qb hT hR1 hO1 (fun w₀ _=>⟨_,_,hrun w₀⟩) (hrun w₁) (.refl _ _ _) fun e he=>jX he,?_⟩
 rw[bk]
 refine M.bind (hcall K w₁ V cargs .normal _ hR1 hO1 hV) ?_
 rintro g' w' V' ⟨fr,v,σ',K',rfl,_,hkd,hl,hX,hR',hO',hS'⟩
 refine II hl hkd fun w₂ c hr2 hv=>?_
 have hfin:(b.atR a (.inRegion ops (i::rest)::k)).finish c=b.atR (a.put o.dst c) (.inRegion ops rest::k):=by rw[Frame.finish_atR,ho];rfl
 rw[hfin]
 exact hk v c K' σ' w₂ V' hX hv (hR'.rely hO' hr2) (hO'.rely hr2) (((aI.bN hr).trans hS').trans (.bN hr2))
theorem Pf{r:Nat}{args:List AV}{X:AV→List aa→Prop}{S:MC E.P}(hM:S M)(hcall:eY S r args σ X)(hR:R K σ w)(hO:aU M.Sh V K σ w)(ho:ops[i]? = some o)(hw:Region.wanted o (yielded ops a.tmps)=true)(hnd:∀c,o.op≠ .defer c)
  (hT:Tm E.P (execOp a.eval o) Any) {cargs:Array Value} (hrun:∀w₁ x w₂,(Instr.yield (K.φ r) cargs).run E.P w₁= .ok x w₂→(execOp a.eval o).run E.P w₁= .ok x w₂) (hV:VRs K σ.length args cargs.toList)
  (hk:∀v c K' σ' w' V',X v σ'→VR K' σ'.length v c→R K' σ' w'→aU M.Sh V' K' σ' w'→aI V K σ w V' K' σ' w'→M.J (G (b.atR (a.put o.dst c) (.inRegion ops rest::k)) cs) w' V' au) :
  M.J (G (b.atR a (.inRegion ops (i::rest)::k)) cs) w V au:=by
 refine M.step rfl fun w₁ hr=>?_
 have hR1:=hR.rely hO hr
 have hO1:=hO.rely hr
 obtain⟨fn,tmps,as,body,h1,h2⟩:=hcall K w₁ cargs hR1 hV
 refine⟨_,_,_,IZ ho hw hnd (hrun _ _ _ h1),qb hT hR1 hO1 (fun w₀ h₀=>?_) (hrun _ _ _ h1) (.refl _ _ _) fun e he=>jX he,?_⟩
 ·obtain⟨_,_,_,_,h3,_⟩:=hcall K w₀ cargs h₀ hV
  exact⟨_,_,hrun _ _ _ h3⟩
 rw[bk]
 refine M.bind (h2 M hM V hO1 _ cs) ?_
 rintro g' w' V' ⟨v,c,σ',K',rfl,hX,hv,hR',hO',hS'⟩
 have hfin:(b.atR a (.inRegion ops (i::rest)::k)).finish c=b.atR (a.put o.dst c) (.inRegion ops rest::k):=by rw[Frame.finish_atR,ho];rfl
 rw[hfin]
 exact hk v c K' σ' w' V' hX hv hR' hO' ((aI.bN hr).trans hS')
end
/-! ### operations one after the other, in the model -/
def e7{P:Program}(M:cw P)(ops:Array Oper)(i:Nat)(KK:Act→World→(Nat→Prop)→Prop)(a:Act)(w:World)(V:Nat→Prop):Prop:=
 ∀(b:Frame) (rest:List Nat) (k:List Item) (cs:List Frame) (au:Goroutine→World→(Nat→Prop)→Prop),
  (∀a' w' V',KK a' w' V'→M.J (G (b.atR a' (.inRegion ops rest::k)) cs) w' V' au)→M.J (G (b.atR a (.inRegion ops (i::rest)::k)) cs) w V au
def cY{P:Program}(M:cw P)(ops:Array Oper)(Q:Act→World→(Nat→Prop)→Prop):List Nat→Act→World→(Nat→Prop)→Prop
 | [],a,w,V=>Q a w V
 | i::rest,a,w,V=>e7 M ops i (cY M ops Q rest) a w V
theorem e7.mono{P:Program}{M:cw P}{ops:Array Oper}{i:Nat}{KK KK':Act→World→(Nat→Prop)→Prop}{a:Act}{w:World}{V:Nat→Prop}(h:e7 M ops i KK a w V)(hk:∀a w V,KK a w V→KK' a w V):e7 M ops i KK' a w V:=
 fun b rest k cs au hp=>h b rest k cs au fun a' w' V' hq=>hp a' w' V' (hk _ _ _ hq)
theorem cY.run{P:Program}{M:cw P}{ops:Array Oper}{Q:Act→World→(Nat→Prop)→Prop}{b:Frame}{k:List Item}{cs:List Frame}{au:Goroutine→World→(Nat→Prop)→Prop}
  (hp:∀a' w' V',Q a' w' V'→M.J (G (b.atR a' (.inRegion ops []::k)) cs) w' V' au):∀(l:List Nat) (a:Act) (w:World) (V:Nat→Prop),cY M ops Q l a w V→M.J (G (b.atR a (.inRegion ops l::k)) cs) w V au
 | [],a,w,V,h=>hp a w V h
 | i::l,a,w,V,h=>h b l k cs au fun a' w' V' h'=>cY.run hp l a' w' V' h'
theorem e7.unwanted{P:Program}{M:cw P}{ops:Array Oper}{i:Nat}{o:Oper}{KK:Act→World→(Nat→Prop)→Prop}{a:Act}{w:World}{V:Nat→Prop}(ho:ops[i]? = some o)(hw:Region.wanted o (yielded ops a.tmps)=false)
  (h:∀w₁,Rel V w w₁→KK (a.put o.dst undef) w₁ V):e7 M ops i KK a w V:=fun b rest k cs au hp=>by
 refine M.step rfl fun w₁ hr=>⟨_,_,_,Ka (by rw[ho];simpa using hw),.idle _ _ _,?_⟩
 rw[bk,ho]
 exact hp _ _ _ (h w₁ hr)
theorem kP{all os:List Oper}{dst:Option Tmp}{fr:Fr}{Q:Fr→List aa→Prop}{Sh V V':Nat→Prop}{σ σ':List aa}{w w':World}{K K':Kr}{a:Act}{v:AV}{c:Value}{X:Act→World→(Nat→Prop)→Prop}
  (ih:∀(K':Kr) (σ':List aa) (w':World) (V':Nat→Prop) (fr:Fr) (a':Act),cX E all os fr σ' Q→R K' σ' w'→aU Sh V' K' σ' w'→FR K' σ'.length E.N fr a'.tmps→aI V K σ w V' K' σ' w'→a'.defers=a.defers→X a' w' V')
  (h:cz E all os dst fr Q v σ') (hR:R K' σ' w') (hO:aU Sh V' K' σ' w') (hF:FR K σ.length E.N fr a.tmps) (hS:aI V K σ w V' K' σ' w') (hv:VR K' σ'.length v c):X (a.put dst c) w' V':=by
 have hF':FR K' σ'.length E.N fr a.tmps:=hF.mono hS.ext hS.len
 cases dst with
 | none=>exact ih K' σ' w' V' fr a h hR hO hF' hS rfl
 | some d=>exact ih K' σ' w' V' (fr.put d v) _ h.2 hR hO (hF'.put h.1 hv) hS (put_defers _ _ _)
theorem kx(hE:cm E){M:cw E.P}(hM:E.S M){fr:Fr}{σ:List aa}{w:World}{V:Nat→Prop}{a:Act}{ops:Array Oper}{i:Nat}{o:Oper}{X:AV→List aa→Prop}(ho:ops[i]? = some o)(hw:Region.wanted o (yielded ops a.tmps)=true)
  (h:aP E fr σ o.type o.op X) (hR:R K σ w) (hO:aU M.Sh V K σ w) (hF:FR K σ.length E.N fr a.tmps) {KK:Act→World→(Nat→Prop)→Prop}
  (hk:∀K' σ' w' V' v c,X v σ'→R K' σ' w'→aU M.Sh V' K' σ' w'→VR K' σ'.length v c→aI V K σ w V' K' σ' w'→KK (a.put o.dst c) w' V'):e7 M ops i KK a w V:=by
 intro b rest k cs au hp
 have hplain:(match aop E fr σ o.type o.op with | some (v,σ')=>X v σ' | none=>False)→∃v σ',aop E fr σ o.type o.op=some (v,σ')∧X v σ':=fun h=>by
  split at h
  ·rename_i v σ' h1;exact⟨v,σ',h1,h⟩
  ·exact h.elim
 have hfin:(∃v σ',aop E fr σ o.type o.op=some (v,σ')∧X v σ')→(∀c,o.op≠ .defer c)→M.J (G (b.atR a (.inRegion ops (i::rest)::k)) cs) w V au:=by
  intro⟨v,σ',h1,h2⟩ hnd
  refine u7 (X:=fun c K' σ'' w'=>σ''=σ'∧VR K' σ'.length v c) hR hO ho hw hnd (Sk hE hF h1) (fun w₁ hR1=>?_) (fun c K' σ'' w' V' g1 g2 g3 ⟨e,g4⟩=>?_)
  ·obtain⟨c,K',w',h3,h4,h5,h6⟩:=Hp hE hR1 hF h1
   exact⟨c,K',σ',w',h3,h5,h6,rfl,h4⟩
  ·subst e;exact hp _ _ _ (hk _ _ _ _ _ _ h2 g1 g2 g4 g3)
 obtain⟨dst,op,type,pos,after,guard⟩:=o
 simp only at h hplain
 cases op with
 | call c=>
  obtain⟨callee,args,ats⟩:=c
  cases callee with
  | builtin bi=>exact hfin (hplain h) (fun c hc=>by cases hc)
  | value f=>
   simp only[aP] at h
   have hnd:∀c,(⟨dst,.call ⟨.value f,args,ats⟩,type,pos,after,guard⟩: Oper).op≠ .defer c:=fun c hc=>by cases hc
   split at h
   ·rename_i g p q as hf has
    replace h:=qV hE h
    have hfv:=ak hF hf
    have hav:=cg hF has
    generalize hfe:a.eval f=fv at hfv
    cases hfv with
    | fn _ _ _ p' q' l1 l2 g1 g2=>
     have heq:execOp a.eval ⟨dst,.call ⟨.value f,args,ats⟩,type,pos,after,guard⟩= callFunc g (p'.toArray++args.map a.eval++q'.toArray):=by
      simp only[execOp,resolve,hfe,Deferred.ofValue]
      rfl
     refine GX (h.2 M hM) hR hO ho hw hnd (by rw[heq];exact h.1.tm _) (fun w₁=>by rw[heq];exact h.1.run _ _) ?_ (fun v c K' σ' w' V' h1 h2 h3 h4 h5=>hp _ _ _ (hk _ _ _ _ _ _ h1 h3 h4 h2 h5))
     have:=(VRs.append (K:=K) (n:=σ.length) (l:=p) (l':=p') ⟨l1,g1⟩ hav).append (m:=q) (m':=q') ⟨l2,g2⟩
     simpa using this
   ·rename_i r as hf has
    have hfv:=ak hF hf
    have hav:=cg hF has
    generalize hfe:a.eval f=fv at hfv
    cases hfv with
    | yield _ hr=>
     have e0:(#[]:Array Value)++args.map a.eval=args.map a.eval:=by simp
     have heq:execOp a.eval ⟨dst,.call ⟨.value f,args,ats⟩,type,pos,after,guard⟩= Instr.yield (K.φ r) (args.map a.eval):=by
      simp only[execOp,resolve,hfe,Deferred.ofValue]
      show Instr.yield (K.φ r) (#[]++args.map a.eval)=_
      rw[e0]
     refine Pf hM h hR hO ho hw hnd ?_ (cargs:=args.map a.eval) (fun w₁ x w₂ h1=>by rw[heq];exact h1) (by simpa using hav) (fun v c K' σ' w' V' h1 h2 h3 h4 h5=>hp _ _ _ (hk _ _ _ _ _ _ h1 h3 h4 h2 h5))
     rw[heq]
     unfold Instr.yield Instr.getLoop
     refine ab (ab (fh fun o=>?_))
     split
     ·exact bD (bQ (ab rU) trivial)
     ·trivial
   ·exact h.elim
  | invoke r m=>
   simp only[aP] at h
   have hnd:∀c,(⟨dst,.call ⟨.invoke r m,args,ats⟩,type,pos,after,guard⟩: Oper).op≠ .defer c:=fun c hc=>by cases hc
   split at h
   ·rename_i t v0 as hf has
    split at h
    ·rename_i g hg
     replace h:=qV hE h
     have hfv:=ak hF hf
     have hav:=cg hF has
     generalize hfe:a.eval r=fv at hfv
     cases hfv with
     | iface _ _ c0 hc0=>
      have e1:(#[Value.iface t c0]++args.map a.eval)[0]? = some (.iface t c0):=by rw[Array.getElem?_append_left (by simp)];rfl
      have e2:(#[Value.iface t c0]++args.map a.eval).extract 1 (#[Value.iface t c0]++args.map a.eval).size=args.map a.eval:=by
       apply Array.ext';simp;exact List.take_of_length_le (by simp)
      have heq:execOp a.eval ⟨dst,.call ⟨.invoke r m,args,ats⟩,type,pos,after,guard⟩= callMethod (.iface t c0) m (args.map a.eval):=by
       simp only[execOp,resolve,hfe]
       show invoke (.fn (.method m) #[]) (#[Value.iface t c0]++args.map a.eval)=_
       simp only[invoke,e1,e2]
      have hrun:∀w₁,(callMethod (.iface t c0) m (args.map a.eval)).run E.P w₁= .ok (.enter g (#[c0]++args.map a.eval)) w₁:=fun w₁=>by
       simp only[callMethod,Sem.run_bind,run_program,Result.andThen_ok,hE.mt t m g hg]
       exact h.1.run _ _
      refine GX (h.2 M hM) hR hO ho hw hnd ?_ (fun w₁=>by rw[heq];exact hrun w₁) ?_ (fun v c K' σ' w' V' h1 h2 h3 h4 h5=>hp _ _ _ (hk _ _ _ _ _ _ h1 h3 h4 h2 h5))
      ·rw[heq]
       unfold callMethod
       refine ab (dp (ab (dz (hE.mtT t m g hg c0) fun r hr=>?_)))
       obtain⟨f',rc⟩:=r
       simp only at hr
       subst hr
       exact h.1.tm _
      ·have:=VRs.cons hc0 hav
       simpa using this
    ·exact h.elim
   ·exact h.elim
 | next it bb=>
  simp only[aP] at h
  have hnd:∀c,(⟨dst,.next it bb,type,pos,after,guard⟩: Oper).op≠ .defer c:=fun c hc=>by cases hc
  cases bb with
  | true=>
   rw[if_pos rfl] at h
   cases hit:aH fr it with
   | none=>rw[hit] at h;exact h.elim
   | some v0=>
    rw[hit] at h
    refine u7 (X:=fun c K' σ' w'=>∃v,X v σ'∧VR K' σ'.length v c) hR hO ho hw hnd (bL B0) (fun w₁ hR1=>?_) (fun c K' σ'' w' V' g1 g2 g3 ⟨v,g4,g5⟩=>hp _ _ _ (hk _ _ _ _ _ _ g4 g1 g2 g5 g3))
    obtain⟨v,σ',c',w',h1,h2,h3,h4,h5⟩:=wS (P:=E.P) (T:=type) hR1 (ak hF hit) h
    exact⟨c',K,σ',w',.inl (by simp only[execOp,Sem.run_bind,h1,Result.andThen_ok,Sem.run_pure]),h4,h5,v,h2,h3⟩
  | false=>
   rw[if_neg (by simp)] at h
   cases hit:aH fr it with
   | none=>rw[hit] at h;exact h.elim
   | some v0=>
    rw[hit] at h
    refine u7 (X:=fun c K' σ' w'=>∃v,X v σ'∧VR K' σ'.length v c) hR hO ho hw hnd (bL B0) (fun w₁ hR1=>?_) (fun c K' σ'' w' V' g1 g2 g3 ⟨v,g4,g5⟩=>hp _ _ _ (hk _ _ _ _ _ _ g4 g1 g2 g5 g3))
    obtain⟨v,σ',c',w',h1,h2,h3,h4,h5⟩:=wX (P:=E.P) (T:=type) hR1 (ak hF hit) h
    exact⟨c',K,σ',w',.inl (by simp only[execOp,Sem.run_bind,h1,Result.andThen_ok,Sem.run_pure]),h4,h5,v,h2,h3⟩
 | binOp bo t x y u=>
  simp only[aP] at h
  have hnd:∀c,(⟨dst,.binOp bo t x y u,type,pos,after,guard⟩: Oper).op≠ .defer c:=fun c hc=>by cases hc
  cases hy:dn y with
  | false=>rw[hy] at h;exact hfin (hplain h) hnd
  | true=>
   rw[hy] at h
   obtain rfl:=CK hy
   obtain⟨e,u',Z,hkd,hx,hZ,hX⟩:=KP h
   have hk':(E.ty t).kd≠ .other:=by rw[hkd];simp
   obtain⟨d,hu,hd⟩:=(hE.ty t hk').kd
   rw[hkd] at hd;simp only[bV] at hd;subst hd
   obtain⟨q,len,cap,hq,hnil⟩:=hZ _ _ _ (ak hF hx)
   have hc0:a.eval (.const (.slice none 0 0))= .slice none 0 0:=rfl
   have hte:Tm E.P (Op.equal t (.slice q len cap) (.slice none 0 0)) Any:=by
    show Tm E.P (Op.equalIn (9999+1) t (.slice q len cap) (.slice none 0 0)) Any
    unfold Op.equalIn
    refine ab (cF fun d hd=>?_)
    rw[hu] at hd;simp only[Option.some.injEq] at hd;subst hd
    cases q<;> trivial
   have heq:=fun w=>run_equal_slice_nil (P:=E.P) w t e q len cap hu
   rcases hX with⟨rfl,h1,h2⟩ | ⟨rfl,h1,h2⟩
   ·refine u7 (X:=fun c K' σ' w'=>σ'=σ∧c= .bool q.isNone) hR hO ho hw hnd ?_ (fun w₁ hR1=>⟨_,K,σ,w₁,.inl (by simp[execOp,hq,hc0,eqGuard,binOp,heq]),hR1,.refl _ _ _,rfl,rfl⟩) (fun c K' σ'' w' V' g1 g2 g3 ⟨e,g4⟩=>?_)
    ·refine bL (ab (nJ ?_))
     rw[hq,hc0]
     exact ab (dz hte fun _ _=>trivial)
    ·subst e;subst g4
     cases hn:q.isNone with
     | false=>exact hp _ _ _ (hk _ _ _ _ _ _ h1 g1 g2 (.bool _) g3)
     | true=>exact hp _ _ _ (hk _ _ _ _ _ _ (h2 (hnil hn)) g1 g2 (.bool _) g3)
   ·refine u7 (X:=fun c K' σ' w'=>σ'=σ∧c= .bool (!q.isNone)) hR hO ho hw hnd ?_ (fun w₁ hR1=>⟨_,K,σ,w₁,.inl (by simp[execOp,hq,hc0,eqGuard,binOp,heq]),hR1,.refl _ _ _,rfl,rfl⟩) (fun c K' σ'' w' V' g1 g2 g3 ⟨e,g4⟩=>?_)
    ·refine bL (ab (nJ ?_))
     rw[hq,hc0]
     exact ab (dz hte fun _ _=>trivial)
    ·subst e;subst g4
     cases hn:q.isNone with
     | false=>exact hp _ _ _ (hk _ _ _ _ _ _ h1 g1 g2 (.bool _) g3)
     | true=>exact hp _ _ _ (hk _ _ _ _ _ _ (h2 (hnil hn)) g1 g2 (.bool _) g3)
 | defer c=>simp[aP,aop,pop,cU,hop] at h
 | _=>exact hfin (hplain h) (fun c hc=>by cases hc)
theorem mP(hE:cm E){M:cw E.P}(hM:E.S M){ops:Array Oper}{Q:Fr→List aa→Prop}{V0:Nat→Prop}{K0:Kr}{σ0:List aa}{w0:World}{ds:List Deferred}:∀(l:List Nat) (os:List Oper),l.map (fun i=>ops[i]?)=os.map some→
  ∀(K:Kr) (σ:List aa) (w:World) (V:Nat→Prop) (fr:Fr) (a:Act),cX E ops.toList os fr σ Q→R K σ w→aU M.Sh V K σ w→FR K σ.length E.N fr a.tmps→aI V0 K0 σ0 w0 V K σ w→a.defers=ds→
   cY M ops (mS E M.Sh V0 K0 σ0 w0 ds Q) l a w V
 | [],os,hl,K,σ,w,V,fr,a,h,hR,hO,hF,hS,hd=>by
  cases os with
  | cons=>simp at hl
  | nil=>exact⟨K,σ,fr,h,hR,hO,hF,hS,hd⟩
 | i::l,os,hl,K,σ,w,V,fr,a,h,hR,hO,hF,hS,hd=>by
  cases os with
  | nil=>simp at hl
  | cons o os=>
   simp only[List.map_cons,List.cons.injEq] at hl
   obtain⟨hi,hl⟩:=hl
   have ih:∀(K':Kr) (σ':List aa) (w':World) (V':Nat→Prop) (fr:Fr) (a':Act),cX E ops.toList os fr σ' Q→R K' σ' w'→aU M.Sh V' K' σ' w'→FR K' σ'.length E.N fr a'.tmps→aI V K σ w V' K' σ' w'→a'.defers=a.defers→
     cY M ops (mS E M.Sh V0 K0 σ0 w0 ds Q) l a' w' V':=fun K' σ' w' V' fr a' h1 h2 h3 h4 h5 h6=>mP hE hM l os hl K' σ' w' V' fr a' h1 h2 h3 h4 (hS.trans h5) (h6.trans hd)
   rw[jj] at h
   show e7 M ops i _ a w V
   split at h
   ·exact h.elim
   ·rename_i b hb
    have hw:=gk hF hb
    cases b with
    | false=>exact .unwanted hi hw fun w₁ hr=>kP ih (h.2 rfl) (hR.rely hO hr) (hO.rely hr) hF (.bN hr) fK
    | true=>exact kx hE hM hi hw (h.1 rfl) hR hO hF fun K' σ' w' V' v c h1 h2 h3 h4 h5=>kP ih h1 h2 h3 hF h5 h4
theorem aj.region(hE:cm E){id:Nat}{ops:Array Oper}{k:List Item}{fr:Fr}{σ:List aa}{Q:Option Code→Fr→List aa→Prop}
  (h:cX E ops.toList ops.toList fr σ fun fr σ=>aj E ro k fr σ Q):aj E ro (.code (.region id ops false)::k) fr σ Q:=by
 intro M hM K w V a b cs hb hR hO hF
 have hl:(List.range ops.size).map (fun i=>ops[i]?)=ops.toList.map some:=by
  apply List.ext_getElem
  ·simp
  ·intro i h1 h2
   simp at h1 h2⊢
 refine M.step rfl fun w₁ hr=>⟨_,_,_,show stepG E.P M.main (G (b.atR a (.code (.region id ops false)::k)) cs) w₁= .go (G (b.atR a (.inRegion ops (List.range ops.size)::k)) cs) w₁ by simp[G,stepG,stepG.exec,Frame.atR],.idle _ _ _,?_⟩
 rw[bk]
 refine cY.run ?_ _ _ _ _ (mP hE hM (List.range ops.size) ops.toList hl K σ w₁ V fr a h (hR.rely hO hr) (hO.rely hr) hF (.bN (V:=V) hr) rfl)
 rintro a' w' V' ⟨K',σ',fr',hq,h2,h3,h4,h5,h6⟩
 refine M.step rfl fun w₂ hr2=>⟨_,_,_,show stepG E.P M.main (G (b.atR a' (.inRegion ops []::k)) cs) w₂= .go (G (b.atR a' k) cs) w₂ by simp[G,stepG,stepG.exec,Frame.atR],.idle _ _ _,?_⟩
 rw[bk]
 exact aj.go (hq M hM) (hb.mono h5.ext h5.len) (h2.rely h3 hr2) (h3.rely hr2) h4 (h5.trans (.bN hr2)) h6
end Go.Mu
namespace Go.Mu
open Go Go.Conc
variable {E:Env}{ro:Option Nat}{K:Kr}{n:Nat}
def xx(E:Env)(fr:Fr)(σ:List aa):ResultVar→Option AV
 | .tmp t=>fr.get t
 | .cell a t=>match fr.get a with
  | some (.ptr r off)=>match ai σ r with
   | some (.cells cs)=>ff off (E.ty t).sz cs (E.ty t).kd.agg
   | _=>none
  | _=>none
def ig(E:Env)(fr:Fr)(σ:List aa):List ResultVar→Option (List AV)
 | []=>some []
 | r::rs=>match xx E fr σ r,ig E fr σ rs with
  | some v,some vs=>some (v::vs)
  | _,_=>none
def oneOf:List AV→AV
 | [v]=>v
 | vs=> .tup vs
theorem AE(hE:cm E){σ:List aa}{w:World}(hR:R K σ w){fr:Fr}{a:Act}(hF:FR K σ.length E.N fr a.tmps){r:ResultVar}{v:AV}(h:xx E fr σ r=some v) :
  ∃c,(match r with | .tmp t=>pure (a.tmps.getD t undef) | .cell x t=>do loadVar t (← asAddr (a.tmps.getD x undef)):Sem Value).run E.P w= .ok c w∧VR K σ.length v c:=by
 cases r with
 | tmp t=>
  obtain⟨c,h1,h2⟩:=hF.2 t v h
  exact⟨c,by simp[h1],h2⟩
 | cell x t=>
  simp only[xx] at h
  split at h
  ·rename_i r off hx
   split at h
   ·rename_i cs hg
    obtain⟨c,h1,h2⟩:=hF.2 x _ hx
    obtain⟨hr,rfl⟩:=h2.gl
    obtain⟨f,hc⟩:=pJ hR hg
    obtain⟨c,g1,g2⟩:=kS (P:=E.P) (w:=w) hE.ty hc h
    rw[Nat.zero_add] at g1
    exact⟨c,by simp[h1,asAddr,g1],g2⟩
   ·cases h
  ·cases h
theorem qO(hE:cm E){σ:List aa}{w:World}(hR:R K σ w){fr:Fr}{a:Act}(hF:FR K σ.length E.N fr a.tmps):∀{rs:List ResultVar} {vs:List AV},ig E fr σ rs=some vs→
  ∃cs,(rs.mapM fun(r:ResultVar)=>(match r with | .tmp t=>pure (a.tmps.getD t undef) | .cell x t=>do loadVar t (← asAddr (a.tmps.getD x undef)):Sem Value)).run E.P w= .ok cs w∧VRs K σ.length vs cs
 | [],vs,h=>by simp[ig] at h;subst h;exact⟨[],rfl,.nil⟩
 | r::rs,vs,h=>by
  simp only[ig] at h
  split at h
  ·rename_i v vs' h1 h2
   simp at h;subst h
   obtain⟨c,g1,g2⟩:=AE hE hR hF h1
   obtain⟨cs,g3,g4⟩:=qO hE hR hF h2
   exact⟨c::cs,by simp only[List.mapM_cons,Sem.run_bind,g1,g3,Result.andThen_ok,Sem.run_pure],.cons g2 g4⟩
  ·cases h
theorem oO(hE:cm E){σ:List aa}{w:World}(hR:R K σ w){fr:Fr}{a:Act}(hF:FR K σ.length E.N fr a.tmps){fn:Func}{vs:List AV}(h:ig E fr σ fn.results.toList=some vs) :
  ∃c,(results fn a.tmps).run E.P w= .ok c w∧VR K σ.length (oneOf vs) c:=by
 obtain⟨cs,h1,h2⟩:=qO hE hR hF h
 have h3:(fn.results.mapM fun(r:ResultVar)=>(match r with | .tmp t=>pure (a.tmps.getD t undef) | .cell x t=>do loadVar t (← asAddr (a.tmps.getD x undef)):Sem Value)).run E.P w= .ok cs.toArray w:=by
  rw[Array.mapM_eq_mapM_toList,Sem.run_map,h1];rfl
 have h4:(results fn a.tmps).run E.P w= .ok (if h:cs.toArray.size=1 then cs.toArray[0] else .tuple cs.toArray) w:=by
  have h5:(results fn a.tmps).run E.P w=((fn.results.mapM fun(r:ResultVar)=>(match r with | .tmp t=>pure (a.tmps.getD t undef) | .cell x t=>do loadVar t (← asAddr (a.tmps.getD x undef)):Sem Value)).run E.P w).andThen
    fun vs w'=> .ok (if h:vs.size=1 then vs[0] else .tuple vs) w':=by
   unfold results
   rw[Sem.run_bind]
   rfl
  rw[h5,h3];rfl
 refine⟨_,h4,?_⟩
 match vs,cs,h2 with
 | [v],[c],h2=>exact h2.head
 | [],[],h2=>exact VRs.tup (cs:=#[]) .nil
 | v::u::vs,c::d::cs,h2=>
  have:¬(c::d::cs).toArray.size=1:=by simp
  rw[dif_neg this]
  exact VRs.tup (cs:=(c::d::cs).toArray) (by simpa using h2)
 | [],_::_,h2=>exact absurd h2.1 (by simp)
 | [_],[],h2=>exact absurd h2.1 (by simp)
 | [_],_::_::_,h2=>exact absurd h2.1 (by simp)
 | _::_::_,[],h2=>exact absurd h2.1 (by simp)
 | _::_::_,[_],h2=>exact absurd h2.1 (by simp)
theorem R.Ly{σ:List aa}{w:World}(h:R K σ w){r0:Nat}(hf:bj K σ r0)(o o':Obj)(ho:w.heap[r0]? = some o)(hc:∀p,w.cell? ⟨r0,p,none⟩= none)(hnc:∀cs E fz,o≠ .cells cs E fz) :
  R K σ {w with heap:=w.heap.setIfInBounds r0 o'}∧(∀p,K.S r0 p=none):=by
 have hS:∀p,K.S r0 p=none:=fun p=>by
  cases hk:K.S r0 p with
  | none=>rfl
  | some v=>have:=h.stab r0 p v hk;rw[hc p] at this;cases this
 have hother:∀b,b≠r0→({w with heap:=w.heap.setIfInBounds r0 o'}:World).heap[b]? = w.heap[b]? :=fun b hb=>by
  show(w.heap.setIfInBounds r0 o')[b]? = _
  rw[Array.getElem?_setIfInBounds_ne (Ne.symm hb)]
 have hlt:∀{r o},σ[r]? = some o→r<σ.length:=fun h=>(List.getElem?_eq_some_iff.1 h).1
 refine⟨⟨fun b p v hv=>?_,fun r o1 hr=>?_,h.inj,fun g cs hg=>?_⟩,hS⟩
 ·have hb:b≠r0:=fun e=>by subst e;rw[hS p] at hv;cases hv
  rw[fG (hother b hb)];exact h.stab b p v hv
 ·exact(h.obj r o1 hr).mono (hlt hr) (.refl _ _) (Nat.le_refl _) rfl fun b hb=>⟨hother b (fun e=>hf r o1 hr (e▸hb)),fun _=>rfl⟩
 ·obtain⟨⟨E,fz,h1⟩,h2⟩:=h.lay g cs hg
  have hb:g≠r0:=fun e=>by subst e;rw[ho] at h1;exact hnc _ _ _ (Option.some.inj h1)
  exact⟨⟨E,fz,by rw[hother g hb];exact h1⟩,h2⟩
theorem aI.Pq{V0 V:Nat→Prop}{K0 K:Kr}{σ0 σ:List aa}{w0 w:World}(h:aI V0 K0 σ0 w0 V K σ w){r:Nat}(hr:w0.heap.size≤r)(o:Obj):aI V0 K0 σ0 w0 V K σ {w with heap:=w.heap.setIfInBounds r o}:=by
 have hother:∀b:Nat,b<w0.heap.size→({w with heap:=w.heap.setIfInBounds r o}:World).heap[b]? = w.heap[b]? :=fun b hb=>by
  show(w.heap.setIfInBounds r o)[b]? = _
  rw[Array.getElem?_setIfInBounds_ne (by omega)]
 exact⟨h.ext,h.len,by simpa using h.size,fun b hb hv hf=>by
  obtain⟨h1,h2⟩:=h.keep b hb hv hf
  exact⟨(hother b hb).trans h1,h2⟩,h.sub,h.new,h.os,h.tape,h.output⟩
theorem zw{P:Program}{main:Bool}{b:Frame}{a:Act}{todo:List Item}{cs:List Frame}{w:World}{r:Nat}{ds:List Deferred}(ha:a.defers=mark r::ds)(hr:w.heap[r]? = some (.deferred (some []))) :
  ∃es,stepG P main (G {b.atR a todo with mode:= .returning} cs) w= .go (G {b.atR {a with defers:=ds} todo with mode:= .returning} cs) {w with heap:=w.heap.setIfInBounds r (.deferred none)} es∧
   ∀e∈es,e=⟨.obj r,false,false⟩∨e=⟨.obj r,true,false⟩:=by
 have htake:(Instr.takeDeferred r).run P w= .ok [] {w with heap:=w.heap.setIfInBounds r (.deferred none)}:=by
  simp[Instr.takeDeferred,getObj,setObj,Sem.run,hr]
 have hev:(Instr.takeDeferred r).events P w #[]= #[⟨.obj r,false,false⟩,⟨.obj r,true,false⟩]:=by
  simp[-Sem.runT_eq,Instr.takeDeferred,getObj,setObj,Sem.events,Sem.runT,bind,Sem.bind,hr,Obj.isChan,pure]
 refine⟨seen P b.fn ((Instr.takeDeferred r).events P w #[]),?_,fun e he=>?_⟩
 ·simp[G,stepG,unwind,Frame.atR,ha,mark,htake,GStep.after]
 ·have:=mem_seen he
  rw[hev] at this
  simpa using this
theorem wx{M:cw E.P}{σ:List aa}{b:Frame}{todo:List Item}{cs:List Frame}{au:Goroutine→World→(Nat→Prop)→Prop}{V0:Nat→Prop}{K0:Kr}{σ0:List aa}{w0:World}:∀(ms:List Nat) (a:Act) (w:World) (V:Nat→Prop),a.defers=ms.map mark→R K σ w→aU M.Sh V K σ w→aI V0 K0 σ0 w0 V K σ w→Marks M.Sh V K σ w w0.heap.size ms→
  (∀w' V',R K σ w'→aU M.Sh V' K σ w'→aI V0 K0 σ0 w0 V' K σ w'→M.J (G {b.atR {a with defers:=[]} todo with mode:= .returning} cs) w' V' au)→
  M.J (G {b.atR a todo with mode:= .returning} cs) w V au
 | [],a,w,V,ha,hR,hO,hS,hM,hk=>by
  have:a= {a with defers:=[]}:=by cases a;simp at ha;simp[ha]
  rw[this];exact hk w V hR hO hS
 | r::ms,a,w,V,ha,hR,hO,hS,hM,hk=>by
  refine M.step rfl fun w₁ hr=>?_
  have hw:=hM.own r (by simp)
  have hh0:=hM.heap r (by simp)
  have hlt:r<w.heap.size:=(Array.getElem?_eq_some_iff.1 hh0).1
  have hh:w₁.heap[r]? = some (.deferred (some [])):=by rw[hr.keep r hlt hw.1];exact hh0
  have hR1:=hR.rely hO hr
  have hO1:=hO.rely hr
  obtain⟨es,h1,h2⟩:=zw (P:=E.P) (main:=M.main) (b:=b) (todo:=todo) (cs:=cs) (ds:=ms.map mark) (by simpa using ha) hh
  have hcell:∀p,w₁.cell? ⟨r,p,none⟩= none:=fun p=>by simp[World.cell?,hh]
  obtain⟨hR',_⟩:=hR1.Ly (hM.free r (by simp)) _ (.deferred none) hh hcell (fun _ _ _=>by simp)
  have hlt1:r<w₁.heap.size:=Nat.lt_of_lt_of_le hlt hr.size
  have hsz:({w₁ with heap:=w₁.heap.setIfInBounds r (.deferred none)}:World).heap.size=w₁.heap.size:=by simp
  refine⟨_,_,es,h1,⟨by rw[hsz];exact Nat.le_refl _,fun q hq hv=>?_,rfl,rfl,rfl,Nat.le_refl _,fun e he=>?_⟩,?_⟩
  ·show(w₁.heap.setIfInBounds r _)[q]? = _
   rw[Array.getElem?_setIfInBounds_ne]
   intro e;subst e;exact hv.elim (fun h=>h hw.1) hw.2
  ·rw[hsz]
   rcases h2 e he with rfl | rfl
   ·exact⟨hlt1,rfl,.inr hw⟩
   ·exact⟨hlt1,rfl,.inr hw⟩
  ·rw[hsz,bk]
   have hnd:=List.nodup_cons.1 hM.nodup
   have hS1:aI V0 K0 σ0 w0 V K σ w₁:=hS.trans (.bN hr)
   refine wx ms {a with defers:=ms.map mark} _ V rfl hR' ⟨hO1.obj,hO1.stab,hO1.lay,fun b hb=>by rw[hsz];exact hO1.sh b hb⟩ (hS1.Pq (hM.lo r (by simp)) _) ⟨hnd.2,fun q hq=>hM.lo q (by simp[hq]),fun q hq=>?_,fun q hq=>hM.free q (by simp[hq]),fun q hq=>hM.own q (by simp[hq])⟩ hk
   show(w₁.heap.setIfInBounds r _)[q]? = _
   rw[Array.getElem?_setIfInBounds_ne (fun e=>by subst e;exact hnd.1 hq),hr.keep q (Array.getElem?_eq_some_iff.1 (hM.heap q (by simp[hq]))).1 (hM.own q (by simp[hq])).1]
   exact hM.heap q (by simp[hq])
theorem Dn{P:Program}{fn:Func}{tmps:Array Value}:Tm P (results fn tmps) Any:=by
 unfold results
 rw[Array.mapM_eq_mapM_toList]
 have hm:∀(l:List ResultVar),Tm P (l.mapM fun(r:ResultVar)=>(match r with | .tmp t=>pure (tmps.getD t undef) | .cell x t=>do loadVar t (← asAddr (tmps.getD x undef)):Sem Value):Sem (List Value)) Any:=by
  intro l
  induction l with
  | nil=>trivial
  | cons r l ih=>
   rw[List.mapM_cons]
   refine ab ?_
   cases r with
   | tmp t=>exact bD (ab (dz ih fun _ _=>trivial))
   | cell x t=>exact ab (wj fun a=>ue fun v=>ab (dz ih fun _ _=>trivial))
 exact ab (zJ (dz (hm _) fun _ _=>trivial))
def number:Nat→List AV→List (Nat×AV)
 | _,[]=>[]
 | i,v::vs=>(i,v)::number (i+1) vs
theorem lO:∀(vs:List AV) (i t:Nat) (v:AV),ae (number i vs) t=some v→i≤t∧vs[t-i]? = some v
 | [],i,t,v,h=>by simp[number,ae] at h
 | u::vs,i,t,v,h=>by
  simp only[number,ae] at h
  by_cases e:i=t
  ·subst e;simp at h;subst h;exact⟨Nat.le_refl _,by simp⟩
  ·rw[if_neg e] at h
   obtain⟨h1,h2⟩:=lO vs (i+1) t v h
   refine⟨by omega,?_⟩
   have:t-i=(t- (i+1))+1:=by omega
   rw[this];simpa using h2
theorem ao.of_run(hE:cm E){f:FuncId}{fn:Func}{c:Code}{args:List AV}{σ:List aa}{Q:AV→List aa→Prop}(kp:Nat→Bool)(hf:E.P.funcs[f]? = some fn)(hb:fn.body=some c)(hN:fn.ntmps=E.N)(hA:args.length≤E.N)
  (hC:aW E.P f)
  (h:aj E none [.code c] ⟨kp,[],number 0 args⟩ σ fun j fr σ'=>(j=none∨j=some .ret)∧∃vs,ig E fr σ' fn.results.toList=some vs∧Q (oneOf vs) σ'):ao E.S f args σ Q:=by
 refine⟨hC,fun M hM K w V cargs kd cs hR hO hV=>?_⟩
 let b:Frame:={(default:Frame) with fn:=f,kind:=kd,roundOf:=none}
 have hcl:cargs.size=args.length:=by have:=hV.1;simpa using this.symm
 have henter:Frame.enter E.P f cargs kd=b.atR {tmps:=cargs++Array.replicate (fn.ntmps-cargs.size) undef,defers:=[]} [.code c]:=by
  simp[Frame.enter,Frame.atR,hf,hb,b]
 have hF:FR K σ.length E.N ⟨kp,[],number 0 args⟩ (cargs++Array.replicate (fn.ntmps-cargs.size) undef):=by
  refine⟨by simp;omega,fun t v hv=>?_⟩
  have hv':(if kp t=true then ae (number 0 args) t else ae [] t)=some v:=hv
  split at hv'
  ·obtain⟨_,h2⟩:=lO args 0 t v hv'
   obtain⟨c,h3,h4⟩:=hV.get (i:=t) (by simpa using h2)
   have hlt:t<cargs.size:=by
    have:=(List.getElem?_eq_some_iff.1 h3).1;simpa using this
   refine⟨c,?_,h4⟩
   rw[Array.getElem?_append_left hlt]
   simpa using h3
  ·cases hv'
 rw[henter]
 refine M.bind (h M hM K w V {tmps:=cargs++Array.replicate (fn.ntmps-cargs.size) undef,defers:=[]} b cs rfl hR hO hF) ?_
 rintro g' w' V' ⟨K',σ',fr',a',todo',j,ms,rfl,h1,⟨hj,vs,h3,h4⟩,h5,h5',h6,h7,h8,h9⟩
 simp only[List.append_nil] at h8
 have hret:∀w₁,stepG E.P M.main (G (b.atR a' todo') cs) w₁= .go (G {b.atR a' todo' with mode:= .returning} cs) w₁:=fun w₁=>by
  cases h1 with
  | nil=>simp[G,stepG,stepG.exec,Frame.atR,b]
  | ret k=>simp[G,stepG,stepG.exec,Frame.atR,b]
  | exit id k hk=>rcases hj with hj | hj<;> cases hj
 refine M.step rfl fun w₁ hr=>⟨_,_,_,hret w₁,.idle _ _ _,?_⟩
 rw[bk]
 have hR1:=h5.rely h5' hr
 have hO1:=h5'.rely hr
 refine wx (b:=b) (todo:=todo') ms a' w₁ V' h8 hR1 hO1 (h7.trans (.bN hr)) ⟨h9.nodup,h9.lo,fun r hr'=>by rw[hr.keep r (Array.getElem?_eq_some_iff.1 (h9.heap r hr')).1 (h9.own r hr').1];exact h9.heap r hr',h9.free,h9.own⟩ fun w2 V2 g1 g2 g3=>M.ret ?_
 refine⟨{b.atR {a' with defers:=[]} todo' with mode:= .returning},_,σ',K',rfl,rfl,rfl,⟨rfl,rfl,fn,hf,fun w3 hr3=>?_⟩,h4,g1,g2,g3⟩
 have hR3:=g1.rely g2 hr3
 obtain⟨c',k1,k2⟩:=oO hE hR3 (a:={a' with defers:=[]}) h6 h3
 refine⟨c',k1,k2,?_⟩
 exact(qb Dn hR3 (g2.rely hr3) (fun w₀ h₀=>by
  obtain⟨c0,k3,_⟩:=oO hE h₀ (a:={a' with defers:=[]}) h6 h3
  exact⟨_,_,k3⟩) k1 (.refl _ _ _) fun e he=>he).evs
end Go.Mu
namespace Go.Mu
open Go Go.Conc
variable {E:Env}{ro:Option Nat}{K:Kr}
abbrev au:=Option Code→Fr→List aa→Prop
theorem vX{fr:Fr}{σ:List aa}{type:TypeId}{op:Op}{X Y:AV→List aa→Prop}(hn:∀v σ,X v σ→Y v σ)(h:aP E fr σ type op X):aP E fr σ type op Y:=by
 have hplain:(match aop E fr σ type op with | some (v,σ')=>X v σ' | none=>False)→(match aop E fr σ type op with | some (v,σ')=>Y v σ' | none=>False):=fun h=>by
  split at h
  ·exact hn _ _ h
  ·exact h.elim
 cases op with
 | call c=>
  obtain⟨callee,args,ats⟩:=c
  cases callee with
  | builtin b=>exact hplain h
  | value f=>
   simp only[aP] at h⊢
   split at h
   ·exact uF hn h
   ·intro K w cargs hR hV
    obtain⟨fn,tmps,assign,body,h1,h2⟩:=h K w cargs hR hV
    exact⟨fn,tmps,assign,body,h1,fun M hM V hO c cs=>M.bind (h2 M hM V hO c cs) fun g' w' V' ⟨v,c',σ',K',g1,g2,g3⟩=>M.ret ⟨v,c',σ',K',g1,hn _ _ g2,g3⟩⟩
   ·exact h.elim
  | invoke r m=>
   simp only[aP] at h⊢
   split at h
   ·split at h
    ·exact uF hn h
    ·exact h.elim
   ·exact h.elim
 | next it b=>
  simp only[aP] at h⊢
  split at h
  ·rename_i hb;rw[if_pos hb];exact Dh hn h
  ·rename_i hb;rw[if_neg hb];exact DR hn h
 | binOp bo t x y u=>
  simp only[aP] at h⊢
  cases hy:dn y with
  | true=>rw[hy] at h;exact FZ hn h
  | false=>rw[hy] at h;exact hplain h
 | _=>exact hplain h
theorem jI{all:List Oper}{Q Q':Fr→List aa→Prop}(hq:∀fr σ,Q fr σ→Q' fr σ):∀{os:List Oper} {fr:Fr} {σ:List aa},cX E all os fr σ Q→cX E all os fr σ Q'
 | [],fr,σ,h=>hq _ _ h
 | o::os,fr,σ,h=>by
  rw[jj] at h⊢
  have hn:∀v σ',cz E all os o.dst fr Q v σ'→cz E all os o.dst fr Q' v σ':=fun v σ' h=>by
   unfold cz at h⊢
   split at h
   ·exact jI hq h
   ·exact⟨h.1,jI hq h.2⟩
  split at h
  ·exact h
  ·exact⟨fun hb=>vX hn (h.1 hb),fun hb=>hn _ _ (h.2 hb)⟩
theorem PG{n N:Nat}{fr:Fr}{a:Act}(h:FR K n N fr a.tmps):FR K n N fr.eC a.tmps:=⟨h.1,fun t v hv=>h.2 t v (Fr.J2 hv)⟩
theorem aj.eC{todo:List Item}{fr:Fr}{σ:List aa}{Q:au}(h:aj E ro todo fr.eC σ Q):aj E ro todo fr σ Q:=
 fun M hM K w V a b cs hb hR hO hF=>h M hM K w V a b cs hb hR hO (PG hF)
section congrs
variable {n:Nat}{k:List Item}{fr:Fr}{σ:List aa}{Q:au}
@[congr] theorem T9{todo:List Item}{fr fr':Fr}{σ σ':List aa}{Q:au}(h1:fr=fr')(h2:σ=σ'):aj E ro todo fr σ Q=aj E ro todo fr' σ' Q:=by rw[h1,h2]
@[congr] theorem SP{all os:List Oper}{fr fr':Fr}{σ σ':List aa}{Q:Fr→List aa→Prop}(h1:fr=fr')(h2:σ=σ'):cX E all os fr σ Q=cX E all os fr' σ' Q:=by rw[h1,h2]
@[congr] theorem Q1{all os:List Oper}{dst:Option Tmp}{fr fr':Fr}{Q:Fr→List aa→Prop}{v v':AV}{σ σ':List aa}(h1:fr=fr')(h2:v=v')(h3:σ=σ'):cz E all os dst fr Q v σ=cz E all os dst fr' Q v' σ':=by rw[h1,h2,h3]
@[congr] theorem RI{P:Program}{S:MC P}{f:FuncId}{args args':List AV}{σ σ':List aa}{Q:AV→List aa→Prop}(h1:args=args')(h2:σ=σ'):ao S f args σ Q=ao S f args' σ' Q:=by rw[h1,h2]
@[congr] theorem Ru{P:Program}{S:MC P}{f:FuncId}{args args':List AV}{σ σ':List aa}{Q:AV→List aa→Prop}(h1:args=args')(h2:σ=σ'):eY S f args σ Q=eY S f args' σ' Q:=by rw[h1,h2]
@[congr] theorem Uy{fr:Fr}{σ σ':List aa}{type:TypeId}{op:Op}{Q:AV→List aa→Prop}(h2:σ=σ'):aP E fr σ type op Q=aP E fr σ' type op Q:=by rw[h2]
@[congr] theorem Sm{ds:List Oper}{fr:Fr}{g:Option (Nat×Bool)}:bK ds fr g=bK ds fr g:=rfl
end congrs
section ops
variable {all os:List Oper}{fr:Fr}{σ:List aa}{Q:Fr→List aa→Prop}{type:TypeId}{X:AV→List aa→Prop}
theorem IT:cX E all [] fr σ Q=Q fr σ:=rfl
theorem BA{dst:Option Tmp}{op:Op}{pos:String}{after:Array Edge}:cX E all (⟨dst,op,type,pos,after,none⟩::os) fr σ Q=aP E fr σ type op (cz E all os dst fr Q):=by
 rw[jj];simp[bK]
def dC:List Oper→Nat→Option Tmp
 | [],_=>none
 | o::_,0=>o.dst
 | _::os,j+1=>dC os j
theorem lK:∀(l:List Oper) (j:Nat),(l[j]?).bind (·.dst)=dC l j
 | [],_=>by simp[dC]
 | o::_,0=>by simp[dC]
 | _::os,j+1=>by simp[dC,lK os j]
@[congr] theorem Ss{l:List Oper}{j:Nat}:dC l j=dC l j:=rfl
theorem D5{o:Oper}{l:List Oper}:dC (o::l) 0=o.dst:=rfl
theorem DS{o:Oper}{l:List Oper}{j:Nat}:dC (o::l) (j+1)=dC l j:=rfl
theorem Bx{dst:Option Tmp}{op:Op}{pos:String}{after:Array Edge}{j:Nat}{want:Bool}:cX E all (⟨dst,op,type,pos,after,some (j,want)⟩::os) fr σ Q =
  match dC all j with
  | none=>False
  | some d=>match fr.get d with
   | some (.bool b)=>(b=want→aP E fr σ type op (cz E all os dst fr Q))∧(b=!want→cz E all os dst fr Q (.tup []) σ)
   | some (.tup [])=>cz E all os dst fr Q (.tup []) σ
   | _=>False:=by
 rw[jj]
 simp only[bK,lK]
 cases dC all j with
 | none=>rfl
 | some d=>
  simp only
  cases h:fr.get d with
  | none=>rfl
  | some v=>
   cases v with
   | bool b=>cases b<;> cases want<;> simp
   | tup vs=>cases vs<;> simp
   | _=>rfl
theorem Ba{v:AV}:cz E all os none fr Q v σ=cX E all os fr σ Q:=rfl
theorem Bg{d:Tmp}{v:AV}:cz E all os (some d) fr Q v σ=(d<E.N∧cX E all os (fr.put d v) σ Q):=rfl
def cT(X:AV→List aa→Prop)(σ:List aa):Option AV→Prop
 | some v=>X v σ
 | none=>False
def dD(X:AV→List aa→Prop):Option (AV×List aa)→Prop
 | some (v,σ)=>X v σ
 | none=>False
@[congr] theorem Sn{σ σ':List aa}{v v':Option AV}(h2:σ=σ')(h1:v=v'):cT X σ v=cT X σ' v':=by rw[h1,h2]
@[congr] theorem SK{v v':Option (AV×List aa)}(h1:v=v'):dD X v=dD X v':=by rw[h1]
theorem CI{v:AV}:cT X σ (some v)=X v σ:=rfl
theorem E6{v:AV}:dD X (some (v,σ))=X v σ:=rfl
theorem bR{op:Op}(h1:∀K,aP E fr σ type op K=match aop E fr σ type op with | some (v,σ')=>K v σ' | none=>False)(h2:cU E.ty fr op=none)(h3:hop E.ty fr σ op=none):aP E fr σ type op X=cT X σ (pop E.ty fr type op):=by
 rw[h1]
 unfold aop
 cases pop E.ty fr type op with
 | some v=>rfl
 | none=>simp[h2,h3,cT]
theorem G9{x:Operand}:aP E fr σ type (.move x) X=cT X σ (pop E.ty fr type (.move x)):=bR (fun _=>rfl) rfl rfl
theorem AD{x:Operand}:aP E fr σ type (.assign x) X=cT X σ (pop E.ty fr type (.assign x)):=bR (fun _=>rfl) rfl rfl
theorem I7{c x y:Operand}:aP E fr σ type (.pick c x y) X=cT X σ (pop E.ty fr type (.pick c x y)):=bR (fun _=>rfl) rfl rfl
theorem CH{t:TypeId}{p:Array (Nat×Operand)}:aP E fr σ type (.build t p) X=cT X σ (pop E.ty fr type (.build t p)):=bR (fun _=>rfl) rfl rfl
theorem vK{t:TypeId}{x:Operand}{f:Nat}:aP E fr σ type (.fieldAddr t x f) X=cT X σ (pop E.ty fr type (.fieldAddr t x f)):=bR (fun _=>rfl) rfl rfl
theorem Cp{t:TypeId}{x i:Operand}:aP E fr σ type (.index t x i) X=cT X σ (pop E.ty fr type (.index t x i)):=bR (fun _=>rfl) rfl rfl
theorem vn{t:TypeId}{x i:Operand}:aP E fr σ type (.indexAddr t x i) X=cT X σ (pop E.ty fr type (.indexAddr t x i)):=bR (fun _=>rfl) rfl rfl
theorem wZ{x:Operand}:aP E fr σ type (.nilCheck x) X=cT X σ (pop E.ty fr type (.nilCheck x)):=bR (fun _=>rfl) rfl rfl
theorem CL{op:BinOp}{t u:TypeId}{x y:Operand}(hy:dn y=false):aP E fr σ type (.binOp op t x y u) X=cT X σ (pop E.ty fr type (.binOp op t x y u)):=bR (fun _=>by
 show(match dn y with
  | true=>_
  | false=>_)=_
 rw[hy]<;> cases aop E fr σ type (.binOp op t x y u)<;> rfl) rfl rfl
def vA(A B:Prop):Bool→Prop
 | true=>A
 | false=>B
@[congr] theorem TG{A B:Prop}{b b':Bool}(h:b=b'):vA A B b=vA A B b':=by rw[h]
theorem Hw{A B:Prop}:vA A B true=A:=rfl
theorem Cv{A B:Prop}:vA A B false=B:=rfl
theorem DY{t:Tmp}:dn (.tmp t)=false:=rfl
theorem Fh{k:IntKind}{n:Int}:dn (.const (.int k n))=false:=rfl
theorem Bv{b:Bool}:dn (.const (.bool b))=false:=rfl
theorem Ey{s:ByteArray}:dn (.const (.string s))=false:=rfl
theorem CU:dn (.const (.slice none 0 0))=true:=rfl
theorem zS:dn (.const .nilIface)=false:=rfl
theorem Da{a:Option Addr}:dn (.const (.pointer a))=false:=rfl
def fW(X:AV→List aa→Prop)(σ:List aa):Option AV→Prop
 | some (.bool b)=>(b=true→X (.bool true) σ)∧(b=false→X (.bool false) σ)
 | some v=>X v σ
 | none=>False
theorem rz{v:Option AV}:fW X σ v=cT X σ v:=by
 cases v with
 | none=>rfl
 | some v=>
  cases v with
  | bool b=>cases b<;> simp[fW,cT]
  | _=>rfl
@[congr] theorem Sy{σ σ':List aa}{v v':Option AV}(h2:σ=σ')(h1:v=v'):fW X σ v=fW X σ' v':=by rw[h1,h2]
theorem GK{k:IntKind}{i:Int}:fW X σ (some (.int k i))=X (.int k i) σ:=rfl
theorem H9{s:ByteArray}:fW X σ (some (.str s))=X (.str s) σ:=rfl
theorem KW{op:BinOp}{t u:TypeId}{x y:Operand}:aP E fr σ type (.binOp op t x y u) X=vA (jY X σ op (E.ty t).kd (aH fr x)) (fW X σ (pop E.ty fr type (.binOp op t x y u))) (dn y):=by
 cases hy:dn y with
 | true=>simp only[aP,hy,vA]
 | false=>rw[rz];exact CL hy
theorem LR{e sz:Nat}{t:Tok}{xs:List AV}:jY X σ .eql (.slice e) (some (.list t sz xs))=(X (.bool false) σ∧(xs=[]→X (.bool true) σ)):=rfl
theorem Kl{e sz:Nat}{t:Tok}{xs:List AV}:jY X σ .neq (.slice e) (some (.list t sz xs))=(X (.bool true) σ∧(xs=[]→X (.bool false) σ)):=rfl
theorem Ir{e r l:Nat}:jY X σ .eql (.slice e) (some (.vec r l))=(X (.bool false) σ∧(l=0→X (.bool true) σ)):=rfl
theorem Gv{e r l:Nat}:jY X σ .neq (.slice e) (some (.vec r l))=(X (.bool true) σ∧(l=0→X (.bool false) σ)):=rfl
@[congr] theorem TH{bo:BinOp}{kd kd':TK}{v v':Option AV}(h1:kd=kd')(h2:v=v'):jY X σ bo kd v=jY X σ bo kd' v':=by rw[h1,h2]
theorem G0{op:UnOp}{t:TypeId}{x:Operand}:aP E fr σ type (.unOp op t x) X=cT X σ (pop E.ty fr type (.unOp op t x)):=bR (fun _=>rfl) rfl rfl
def sU(X:AV→List aa→Prop)(σ:List aa):Option AV→Option (AV×List aa)→Prop
 | some v,_=>X v σ
 | none,h=>dD X h
@[congr] theorem Sv{σ σ':List aa}{v v':Option AV}{h h':Option (AV×List aa)}(h1:σ=σ')(h2:v=v')(h3:h=h'):sU X σ v h=sU X σ' v' h':=by rw[h1,h2,h3]
theorem Ef{v:AV}{h:Option (AV×List aa)}:sU X σ (some v) h=X v σ:=rfl
theorem CB{h:Option (AV×List aa)}:sU X σ none h=dD X h:=rfl
theorem yr{s t:TypeId}{x:Operand}:aP E fr σ type (.convert s t x) X=sU X σ (pop E.ty fr type (.convert s t x)) (hop E.ty fr σ (.convert s t x)):=by
 show(match aop E fr σ type (.convert s t x) with | some (v,σ')=>X v σ' | none=>False)=_
 unfold aop
 cases pop E.ty fr type (.convert s t x) with
 | some v=>rfl
 | none=>
  show(match hop E.ty fr σ (.convert s t x) with | some (v,σ')=>X v σ' | none=>False)=_
  cases hop E.ty fr σ (.convert s t x) with
  | none=>rfl
  | some p=>rfl
theorem pj{t:TypeId}{x:Operand}:aP E fr σ type (.makeInterface t x) X=cT X σ (pop E.ty fr type (.makeInterface t x)):=bR (fun _=>rfl) rfl rfl
theorem xc{f:Fn}{x y:Array Operand}:aP E fr σ type (.makeFunc f x y) X=cT X σ (pop E.ty fr type (.makeFunc f x y)):=bR (fun _=>rfl) rfl rfl
theorem za{x:Operand}{i:Nat}:aP E fr σ type (.extract x i) X=cT X σ (pop E.ty fr type (.extract x i)):=bR (fun _=>rfl) rfl rfl
theorem uo{x:Operand}{s t:TypeId}{ok:Bool}:aP E fr σ type (.typeAssert x s t ok) X=cT X σ (pop E.ty fr type (.typeAssert x s t ok)):=bR (fun _=>rfl) rfl rfl
theorem LO{args:Array Operand}{ats:Array TypeId}:aP E fr σ type (.call ⟨.builtin .len,args,ats⟩) X=cT X σ (pop E.ty fr type (.call ⟨.builtin .len,args,ats⟩)):=bR (fun _=>rfl) rfl rfl
def Qo(k:TK):Option AV→Option AV
 | some (.list _ _ xs)=>(match k with | .slice _=>some (.int .i64 xs.length) | _=>none)
 | some (.arr _ _ n)=>(match k with | .slice _=>some (.int .i64 n) | _=>none)
 | some (.vec _ n)=>(match k with | .slice _=>some (.int .i64 n) | _=>none)
 | some (.str s)=>(match k with | .str=>some (.int .i64 s.size) | _=>none)
 | _=>none
theorem I4{x:Operand}{t:TypeId}:aP E fr σ type (.call ⟨.builtin .len,#[x],#[t]⟩) X=cT X σ (Qo (E.ty t).kd (aH fr x)):=by
 rw[LO]
 simp only[pop,bI,List.getElem?_toArray,List.getElem?_cons_zero]
 cases aH fr x with
 | none=>rfl
 | some v=>
  simp only
  cases v<;> cases(E.ty t).kd<;> rfl
theorem KZ{args:Array Operand}{ats:Array TypeId}:aP E fr σ type (.call ⟨.builtin .max,args,ats⟩) X=cT X σ (pop E.ty fr type (.call ⟨.builtin .max,args,ats⟩)):=bR (fun _=>rfl) rfl rfl
theorem LG{args:Array Operand}{ats:Array TypeId}:aP E fr σ type (.call ⟨.builtin .min,args,ats⟩) X=cT X σ (pop E.ty fr type (.call ⟨.builtin .min,args,ats⟩)):=bR (fun _=>rfl) rfl rfl
theorem tX{t:TypeId}{n:Nat}{p:Array (Nat×Operand)}:aP E fr σ type (.buildSlice t n p) X=cT X σ (cU E.ty fr (.buildSlice t n p)):=by
 show(match aop E fr σ type (.buildSlice t n p) with | some (v,σ')=>X v σ' | none=>False)=_
 have h:aop E fr σ type (.buildSlice t n p)=(cU E.ty fr (.buildSlice t n p)).map fun v=>(v,σ):=by
  show(match cU E.ty fr (.buildSlice t n p) with | some v=>some (v,σ) | none=>hop E.ty fr σ (.buildSlice t n p))=_
  cases cU E.ty fr (.buildSlice t n p)<;> rfl
 rw[h]
 cases cU E.ty fr (.buildSlice t n p)<;> rfl
theorem dc{op:Op}(h1:∀K,aP E fr σ type op K=match aop E fr σ type op with | some (v,σ')=>K v σ' | none=>False)(h2:cU E.ty fr op=none)(h3:pop E.ty fr type op=none):aP E fr σ type op X=dD X (hop E.ty fr σ op):=by
 rw[h1];unfold aop;simp only[h2,h3]
 cases hop E.ty fr σ op with
 | none=>rfl
 | some p=>rfl
theorem sH{t:TypeId}:aP E fr σ type (.alloc t) X=dD X (hop E.ty fr σ (.alloc t)):=dc (fun _=>rfl) rfl rfl
theorem Ll{t:TypeId}{x:Operand}:aP E fr σ type (.box t x) X=dD X (hop E.ty fr σ (.box t x)):=dc (fun _=>rfl) rfl rfl
theorem vJ{t:TypeId}{x y:Operand}:aP E fr σ type (.makeSlice t x y) X=dD X (hop E.ty fr σ (.makeSlice t x y)):=dc (fun _=>rfl) rfl rfl
theorem Ii{t:TypeId}{x:Operand}:aP E fr σ type (.load t x) X=dD X (hop E.ty fr σ (.load t x)):=dc (fun _=>rfl) rfl rfl
theorem EW{t:TypeId}{x y:Operand}:aP E fr σ type (.store t x y) X=dD X (hop E.ty fr σ (.store t x y)):=dc (fun _=>rfl) rfl rfl
theorem Bp{args:Array Operand}{ats:Array TypeId}:aP E fr σ type (.call ⟨.builtin .append,args,ats⟩) X=dD X (hop E.ty fr σ (.call ⟨.builtin .append,args,ats⟩)):=by
 refine dc (fun _=>rfl) rfl ?_
 simp only[pop]
theorem Ao{r:Operand}{m:String}{args:Array Operand}{ats:Array TypeId}:aP E fr σ type (.call ⟨.invoke r m,args,ats⟩) X=match aH fr r,bI fr args.toList with
  | some (.iface t v),some as=>match E.mt t m with
   | some g=>fb E g (v::as) σ X
   | none=>False
  | _,_=>False:=rfl
theorem GB{it:Operand}:aP E fr σ type (.next it false) X=iF X σ (aH fr it):=by
 show(if false=true then ko X σ (aH fr it) else iF X σ (aH fr it))=_
 rw[if_neg (by simp)]
theorem IJ{r:Nat}:ko X σ (some (.ptr r 0))=lD X σ r (ai σ r):=rfl
theorem H3{r:Nat}{s:ByteArray}{pos:Nat}:lD X σ r (some (.siter s pos))=jB X σ r s pos s[pos]? :=rfl
theorem AW{r:Nat}{s:ByteArray}{pos:Nat}{b:UInt8}:jB X σ r s pos (some b)=(b.toNat<128∧X (.tup [.bool true,.int .i64 pos,.int .i32 b.toNat]) (ax σ r (.siter s (pos+1)))):=rfl
theorem Av{r:Nat}{s:ByteArray}{pos:Nat}:jB X σ r s pos none=X (.tup [.bool false]) σ:=rfl
@[congr] theorem SL{σ σ':List aa}{v v':Option AV}(h2:σ=σ')(h3:v=v'):ko X σ v=ko X σ' v':=by rw[h2,h3]
@[congr] theorem R6{σ σ':List aa}{r r':Nat}{v v':Option aa}(h1:r=r')(h2:σ=σ')(h3:v=v'):lD X σ r v=lD X σ' r' v':=by rw[h1,h2,h3]
@[congr] theorem RK{σ σ':List aa}{r r':Nat}{s s':ByteArray}{pos pos':Nat}{v v':Option UInt8}(h1:r=r')(h2:σ=σ')(h4:s=s')(h5:pos=pos')(h3:v=v'):jB X σ r s pos v=jB X σ' r' s' pos' v':=by rw[h1,h2,h3,h4,h5]
theorem zU{t:TypeId}:aP E fr σ type (.makeMap t none) X=dD X (hop E.ty fr σ (.makeMap t none)):=dc (fun _=>rfl) rfl rfl
theorem Ak{t:TypeId}{m k:Operand}{ok:Bool}:aP E fr σ type (.lookup t m k ok) X=dD X (hop E.ty fr σ (.lookup t m k ok)):=dc (fun _=>rfl) rfl rfl
theorem vv{t:TypeId}{m k x:Operand}:aP E fr σ type (.mapUpdate t m k x) X=dD X (hop E.ty fr σ (.mapUpdate t m k x)):=dc (fun _=>rfl) rfl rfl
theorem Ce{t:TypeId}{m:Operand}:aP E fr σ type (.range t m) X=dD X (hop E.ty fr σ (.range t m)):=dc (fun _=>rfl) rfl rfl
theorem CJ{it:Operand}:aP E fr σ type (.entry it) X=dD X (hop E.ty fr σ (.entry it)):=dc (fun _=>rfl) rfl rfl
def qy{P:Program}(S:MC P)(g:FuncId)(as:List AV)(σ:List aa)(X:AV→List aa→Prop):Option AV→Prop
 | some v=>X v σ
 | none=>ao S g as σ X
theorem oh{g:FuncId}{as:List AV}:fb E g as σ X=qy E.S g as σ X (E.fs g as):=by unfold fb qy;cases E.fs g as<;> rfl
theorem De{P:Program}{S:MC P}{g:FuncId}{as:List AV}:qy S g as σ X none=ao S g as σ X:=rfl
@[congr] theorem Sq{g:FuncId}{as as':List AV}{σ σ':List aa}(h1:as=as')(h2:σ=σ'):fb E g as σ X=fb E g as' σ' X:=by rw[h1,h2]
@[congr] theorem Sx{P:Program}{S:MC P}{g:FuncId}{as as':List AV}{σ σ':List aa}{v v':Option AV}(h1:as=as')(h2:σ=σ')(h3:v=v'):qy S g as σ X v=qy S g as' σ' X v':=by rw[h1,h2,h3]
@[congr] theorem Sl{σ σ':List aa}{v v':Option AV}(h2:σ=σ')(h3:v=v'):iF X σ v=iF X σ' v':=by rw[h2,h3]
end ops
theorem uO.of{P:Program}{t:Nat}{i:TI}(d:TypeDesc)(h1:(P.info? t).map (fun i=>(i.size,i.bytes))=some (i.sz,i.bytes))(h2:((P.info? t).bind (·.zero)).bind kj=some i.zero)(h3:i.zero.flat=true)
  (h4:P.underlying t=some d) (h5:bV d i.kd):uO P t i:=by
 refine⟨?_,d,h4,h5⟩
 cases hi:P.info? t with
 | none=>rw[hi] at h1;cases h1
 | some ti=>
  rw[hi] at h1 h2
  simp only[Option.map_some,Option.some.injEq,Prod.mk.injEq] at h1
  simp only[Option.bind_some] at h2
  cases hz:ti.zero with
  | none=>rw[hz] at h2;cases h2
  | some z=>rw[hz] at h2;exact⟨ti,rfl,h1.1,h1.2,⟨z,hz,h2⟩,h3⟩
def Af(l:List (Nat×TI))(t:Nat):TI:=(l.find? (fun p=>p.1==t)).elim {sz:=0,bytes:=0,kd:= .other,zero:= .tup []} (·.2)
theorem RF{P:Program}{l:List (Nat×TI)}(h:∀p∈l,uO P p.1 p.2):b9 P (Af l):=by
 intro t ht
 unfold Af at ht⊢
 cases hf:l.find? (fun p=>p.1==t) with
 | none=>rw[hf] at ht;exact absurd rfl ht
 | some p=>
  have h1:=h p (List.mem_of_find?_eq_some hf)
  have h2:=List.find?_some hf
  simp at h2
  subst h2
  exact h1
end Go.Mu
namespace Go.Mu
open Go Go.Conc
variable {E:Env}{ro:Option Nat}{K:Kr}
def Fr.only(fr:Fr)(ns:List Nat):Fr:=⟨fr.kp,fr.tm.filter (fun p=>ns.contains p.1),fr.sl.filter (fun p=>ns.contains p.1)⟩
theorem lY(ns:List Nat)(t:Nat):∀l:List (Nat×AV),ae (l.filter (fun p=>ns.contains p.1)) t=if ns.contains t then ae l t else none
 | []=>by simp[ae]
 | (d,v)::l=>by
  have ih:=lY ns t l
  by_cases hd:ns.contains d=true
  ·rw[List.filter_cons_of_pos (by simpa using hd)]
   simp only[ae]
   by_cases e:d=t
   ·subst e;simp only[if_true,hd]
   ·simp only[if_neg e,ih]
  ·rw[List.filter_cons_of_neg (by simpa using hd)]
   simp only[ae,ih]
   by_cases e:d=t
   ·subst e;simp only[hd,if_false,Bool.false_eq_true]
   ·simp only[if_neg e]
theorem Fr.zW(fr:Fr)(ns:List Nat)(t:Nat):(fr.only ns).get t=if ns.contains t then fr.get t else none:=by
 show(if fr.kp t=true then ae (fr.sl.filter _) t else ae (fr.tm.filter _) t)=_
 rw[lY,lY]
 unfold Fr.get
 by_cases h:fr.kp t=true<;> by_cases g:ns.contains t=true<;> simp[h,g]
def ek(fr fr':Fr)(xs:List Operand):Prop:=∀x∈xs,aH fr x=aH fr' x
variable {fr fr':Fr}
theorem ek.bI:∀{xs:List Operand},ek fr fr' xs→bI fr xs=bI fr' xs
 | [],_=>rfl
 | x::xs,h=>by simp only[Mu.bI,h x (by simp),ek.bI (xs:=xs) (fun y hy=>h y (by simp[hy]))]
theorem ek.apart:∀{ps:List (Nat×Operand)},ek fr fr' (ps.map (·.2))→apart fr ps=apart fr' ps
 | [],_=>rfl
 | (i,x)::ps,h=>by simp only[Mu.apart,h x (by simp),ek.apart (ps:=ps) (fun y hy=>h y (by simp at hy⊢;exact .inr hy))]
theorem KF{ty:Nat→TI}{type:TypeId}(op:Op)(h:ek fr fr' op.operands.toList):pop ty fr type op=pop ty fr' type op:=by
 cases op with
 | build t ps=>simp only[pop];rw[ek.apart (ps:=ps.toList) (fun x hx=>h x (by simpa[Op.operands] using hx))]
 | makeFunc f x y=>
  simp only[pop]
  rw[ek.bI (xs:=x.toList) (fun z hz=>h z (by simp at hz;simp[Op.operands,hz])),ek.bI (xs:=y.toList) (fun z hz=>h z (by simp at hz;simp[Op.operands,hz]))]
 | slice t x lo hi mx=>
  have hx:=h x (by simp[Op.operands])
  have hlo:∀y,lo=some y→aH fr y=aH fr' y:=fun y e=>h y (by subst e;simp[Op.operands])
  have hhi:∀y,hi=some y→aH fr y=aH fr' y:=fun y e=>h y (by subst e;simp[Op.operands])
  cases lo with
  | none=>cases hi with
   | none=>simp only[pop,hx]
   | some y=>simp only[pop,hx,hhi y rfl]
  | some z=>cases hi with
   | none=>simp only[pop,hx,hlo z rfl]
   | some y=>simp only[pop,hx,hhi y rfl,hlo z rfl]
 | call c=>
  obtain⟨callee,args,ats⟩:=c
  cases callee with
  | builtin b=>
   have:=ek.bI (xs:=args.toList) (fun z hz=>h z (by simp at hz;simp[Op.operands,Call.operands,hz]))
   cases b<;> simp only[pop,this]
  | _=>simp only[pop]
 | _=>
  first
   | rfl
   | (simp only[ek,Op.operands,List.mem_cons,List.not_mem_nil,or_false,forall_eq_or_imp,forall_eq] at h;simp only[pop,h])
theorem KR{ty:Nat→TI}(op:Op)(h:ek fr fr' op.operands.toList):cU ty fr op=cU ty fr' op:=by
 cases op with
 | buildSlice t n ps=>simp only[cU];rw[ek.apart (ps:=ps.toList) (fun x hx=>h x (by simpa[Op.operands] using hx))]
 | _=>rfl
theorem L0{ty:Nat→TI}{σ:List aa}(op:Op)(h:ek fr fr' op.operands.toList):hop ty fr σ op=hop ty fr' σ op:=by
 cases op with
 | call c=>
  obtain⟨callee,args,ats⟩:=c
  cases callee with
  | builtin b=>
   have:=ek.bI (xs:=args.toList) (fun z hz=>h z (by simp at hz;simp[Op.operands,Call.operands,hz]))
   cases b<;> simp only[hop,this]
  | _=>simp only[hop]
 | makeMap t m=>cases m<;> rfl
 | _=>
  first
   | rfl
   | (simp only[ek,Op.operands,List.mem_cons,List.not_mem_nil,or_false,forall_eq_or_imp,forall_eq] at h;simp only[hop,cvO,h])
theorem nS{σ:List aa}{type:TypeId}(op:Op)(h:ek fr fr' op.operands.toList):aop E fr σ type op=aop E fr' σ type op:=by
 unfold aop;rw[KF op h,KR op h,L0 op h]
theorem Gl{σ:List aa}{type:TypeId}{X:AV→List aa→Prop}(op:Op)(h:ek fr fr' op.operands.toList):aP E fr σ type op X=aP E fr' σ type op X:=by
 cases op with
 | call c=>
  obtain⟨callee,args,ats⟩:=c
  cases callee with
  | builtin b=>simp only[aP,nS _ h]
  | value f=>
   have h1:=h f (by simp[Op.operands,Call.operands])
   have h2:=ek.bI (xs:=args.toList) (fun z hz=>h z (by simp at hz;simp[Op.operands,Call.operands,hz]))
   simp only[aP,h1,h2]
  | invoke f m=>
   have h1:=h f (by simp[Op.operands,Call.operands])
   have h2:=ek.bI (xs:=args.toList) (fun z hz=>h z (by simp at hz;simp[Op.operands,Call.operands,hz]))
   simp only[aP,h1,h2]
 | next it b=>
  have h1:=h it (by simp[Op.operands])
  simp only[aP,h1]
 | binOp bo t x y u=>
  have h1:=h x (by simp[Op.operands])
  simp only[aP,h1,nS _ h]
 | _=>simp only[aP,nS _ h]
theorem jm{ops:Array Oper}{o:Oper}(h:∀t∈o.looksAt ops,fr.get t=fr'.get t):bK ops.toList fr o.guard=bK ops.toList fr' o.guard:=by
 cases hg:o.guard with
 | none=>rfl
 | some gw=>
  obtain⟨j,want⟩:=gw
  simp only[bK]
  cases hd:(ops.toList[j]?).bind (·.dst) with
  | none=>rfl
  | some d=>
   have hd':(ops[j]?).bind (·.dst)=some d:=by simpa using hd
   have:=h d (by simp[Oper.looksAt,hg,hd'])
   simp only[this]
theorem np{ops:Array Oper}{o:Oper}(h:∀t∈o.looksAt ops,fr.get t=fr'.get t):ek fr fr' o.op.operands.toList:=by
 intro x hx
 cases x with
 | tmp t=>exact h t (List.mem_append_left _ (List.mem_filterMap.2 ⟨.tmp t,hx,rfl⟩))
 | const v=>rfl
 | func f=>rfl
 | global g=>rfl
end Go.Mu
