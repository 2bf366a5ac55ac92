/- Part N of the abstract layer: statements are sound, in whatever company. -/
import Derived.Test.YtgbdndlmdklefaaGreatFK06
import Derived.Laws.Cover3
set_option linter.unusedSimpArgs false
set_option linter.unusedVariables false
namespace Go.Mu
open Go Go.Conc
variable {E:Env}{ro:Option Nat}{K:Kr}{n:Nat}
def evNext(E:Env)(all os:List Oper)(dst:Option Tmp)(fr:Fr)(Q:Fr→List AObj→Prop)(v:AV)(σ:List AObj):Prop:=
 match dst with
 | none=>evOps E all os fr σ Q
 | some d=>d<E.N∧evOps E all os (fr.put d v) σ Q
theorem evOps_cons(E:Env)(all os:List Oper)(o:Oper)(fr:Fr)(σ:List AObj)(Q:Fr→List AObj→Prop):evOps E all (o::os) fr σ Q =
  match wantA all fr o.guard with
  | none=>False
  | some b=>(b=true→evOp E fr σ o.type o.op (evNext E all os o.dst fr Q))∧(b=false→evNext E all os o.dst fr Q (.tup []) σ):=rfl
def Done(E:Env)(Sh V:Nat→Prop)(K:Kr)(σ:List AObj)(w:World)(ds:List Deferred)(Q:Fr→List AObj→Prop)(a:Act)(w':World)(V':Nat→Prop):Prop:=
 ∃K' σ' fr',Q fr' σ'∧R K' σ' w'∧OwnV Sh V' K' σ' w'∧FR K' σ'.length E.N fr' a.tmps∧StepV V K σ w V' K' σ' w'∧a.defers=ds
theorem put_defers(a:Act)(d:Option Tmp)(v:Value):(a.put d v).defers=a.defers:=by cases d<;> rfl
/-! ### the model's steps -/
section
variable {P:Program}{main:Bool}{b:Frame}{a:Act}{k:List Item}{cs:List Frame}{w w':World}{ops:Array Oper}{i:Nat}{rest:List Nat}{o:Oper}
theorem stepG_opR(ho:ops[i]? = some o)(hw:Region.wanted o (yielded ops a.tmps)=true)(hnd:∀c,o.op≠ .defer c) :
  stepG P main (G (b.atR a (.inRegion ops (i::rest)::k)) cs) w=stepG.apply P true (b.atR a (.inRegion ops (i::rest)::k)) cs none (execOp a.eval o) w:=by
 have he:=Frame.eval_atR b a (.inRegion ops (i::rest)::k)
 simp only[Frame.atR] at he
 simp only[G,stepG,stepG.exec,Frame.atR,ho,hw,Option.map_some,Option.getD_some,if_true,stepG.oper,Frame.oper?,he]
 cases b.roundOf with
 | none=>rfl
 | some l=>
  cases hop:o.op with
  | defer c=>exact absurd hop (hnd c)
  | _=>rfl
def lst(P:Program)(b:Frame)(a:Act)(o:Oper)(w:World):Array Event:=seen P b.fn (if b.kind== .early then #[] else(execOp a.eval o).events P w #[])
theorem mem_lst{e:Event}(h:e∈lst P b a o w):e∈(execOp a.eval o).events P w #[]:=by
 have:=mem_seen h
 split at this
 ·simp at this
 ·exact this
theorem stepG_opv{v:Value}(ho:ops[i]? = some o)(hw:Region.wanted o (yielded ops a.tmps)=true)(hnd:∀c,o.op≠ .defer c)
  (hr:(execOp a.eval o).run P w= .ok (.value v) w'∨(execOp a.eval o).run P w= .ok .skip w'∧v=undef) :
  stepG P main (G (b.atR a (.inRegion ops (i::rest)::k)) cs) w= .go (G (b.atR (a.put o.dst v) (.inRegion ops rest::k)) cs) w' (lst P b a o w):=by
 have hfin:∀v,(b.atR a (.inRegion ops (i::rest)::k)).finish v=b.atR (a.put o.dst v) (.inRegion ops rest::k):=fun v=>by rw[Frame.finish_atR,ho];rfl
 rw[stepG_opR ho hw hnd,← hfin]
 rcases hr with hr | ⟨hr,rfl⟩<;> simp[stepG.apply,hr,G,Frame.atR,GStep.after,lst]
theorem stepG_ope{f:FuncId}{args:Array Value}(ho:ops[i]? = some o)(hw:Region.wanted o (yielded ops a.tmps)=true)(hnd:∀c,o.op≠ .defer c)
  (hr:(execOp a.eval o).run P w= .ok (.enter f args) w') :
  stepG P main (G (b.atR a (.inRegion ops (i::rest)::k)) cs) w= .go (G (Frame.enter P f args .normal) (b.atR a (.inRegion ops (i::rest)::k)::cs)) w' (lst P b a o w):=by
 rw[stepG_opR ho hw hnd]
 simp[stepG.apply,hr,G,Frame.atR,GStep.after,lst]
theorem stepG_opr{l:Nat}{f:FuncId}{tmps:Array Value}{as body:Code}(ho:ops[i]? = some o)(hw:Region.wanted o (yielded ops a.tmps)=true)(hnd:∀c,o.op≠ .defer c)
  (hr:(execOp a.eval o).run P w= .ok (.round l f tmps as body) w') :
  stepG P main (G (b.atR a (.inRegion ops (i::rest)::k)) cs) w= .go (G (Frame.round l f tmps as body .normal) (b.atR a (.inRegion ops (i::rest)::k)::cs)) w' (lst P b a o w):=by
 rw[stepG_opR ho hw hnd]
 simp[stepG.apply,hr,G,Frame.atR,GStep.after,lst]
theorem stepG_no(hw:((ops[i]?).map (Region.wanted · (yielded ops a.tmps))).getD false=false) :
  stepG P main (G (b.atR a (.inRegion ops (i::rest)::k)) cs) w= .go (G (b.atR (a.put ((ops[i]?).bind (·.dst)) undef) (.inRegion ops rest::k)) cs) w:=by
 rw[← Frame.finish_atR]
 simp[G,stepG,stepG.exec,Frame.atR,hw]
theorem stepG_leave{fr c:Frame}{v:Value}(hm:fr.mode= .returning)(hd:fr.defers=[])(hk:fr.kind= .normal){fn:Func}(hf:P.funcs[fr.fn]? = some fn)(hr:(results fn fr.tmps).run P w= .ok v w) :
  stepG P main (G fr (c::cs)) w= .go (G (c.finish v) cs) w (seen P fr.fn ((results fn fr.tmps).events P w #[])):=by
 simp[G,stepG,unwind,doReturn,hm,hd,hk,hf,hr,GStep.after]
end
/-! ### an operation -/
section
variable {M:RMode E.P}{σ:List AObj}{w:World}{V:Nat→Prop}{a:Act}{b:Frame}{cs:List Frame}{k:List Item}{ops:Array Oper}{i:Nat}{rest:List Nat}{o:Oper}{Post:Goroutine→World→(Nat→Prop)→Prop}
theorem J_op0(hR:R K σ w)(hO:OwnV M.Sh V K σ w)(ho:ops[i]? = some o)(hw:Region.wanted o (yielded ops a.tmps)=true)(hnd:∀c,o.op≠ .defer c)(hT:Tm E.P (execOp a.eval o) Any){X:Value→Kr→List AObj→World→World→Prop}
  (hs:∀w₁,R K σ w₁→∃c K' σ' w',((execOp a.eval o).run E.P w₁= .ok (.value c) w'∨(execOp a.eval o).run E.P w₁= .ok .skip w'∧c=undef)∧R K' σ' w'∧Step K σ w₁ K' σ' w'∧X c K' σ' w₁ w')
  (hk:∀c K' σ' w₁ w',Rel V w w₁→R K' σ' w'→OwnV M.Sh (Newer V w₁.heap.size w'.heap.size) K' σ' w'→StepV V K σ w (Newer V w₁.heap.size w'.heap.size) K' σ' w'→X c K' σ' w₁ w'→M.J (G (b.atR (a.put o.dst c) (.inRegion ops rest::k)) cs) w' (Newer V w₁.heap.size w'.heap.size) Post) :
  M.J (G (b.atR a (.inRegion ops (i::rest)::k)) cs) w V Post:=by
 refine M.step rfl fun w₁ hr=>?_
 have hR1:=hR.rely hO hr
 have hO1:=hO.rely hr
 obtain⟨c,K',σ',w',h1,h2,h3,h4⟩:=hs w₁ hR1
 refine⟨_,_,_,stepG_opv ho hw hnd h1,?_,hk c K' σ' w₁ w' hr h2 (hO1.step h2 h3) ((StepV.of_rel hr).trans (.of_step h3)) h4⟩
 have hsafe:∀w₀,R K σ w₀→∃x w₀',(execOp a.eval o).run E.P w₀= .ok x w₀':=fun w₀ h₀=>by
  obtain⟨c,K',σ',w',h1,_⟩:=hs w₀ h₀
  rcases h1 with h1 | h1
  ·exact⟨_,_,h1⟩
  ·exact⟨_,_,h1.1⟩
 rcases h1 with h1 | ⟨h1,_⟩
 ·exact gua_of hT hR1 hO1 hsafe h1 h3 fun e he=>mem_lst he
 ·exact gua_of hT hR1 hO1 hsafe h1 h3 fun e he=>mem_lst he
theorem J_op(hR:R K σ w)(hO:OwnV M.Sh V K σ w)(ho:ops[i]? = some o)(hw:Region.wanted o (yielded ops a.tmps)=true)(hnd:∀c,o.op≠ .defer c)(hT:Tm E.P (execOp a.eval o) Any){X:Value→Kr→List AObj→World→Prop}
  (hs:∀w₁,R K σ w₁→∃c K' σ' w',((execOp a.eval o).run E.P w₁= .ok (.value c) w'∨(execOp a.eval o).run E.P w₁= .ok .skip w'∧c=undef)∧R K' σ' w'∧Step K σ w₁ K' σ' w'∧X c K' σ' w')
  (hk:∀c K' σ' w' V',R K' σ' w'→OwnV M.Sh V' K' σ' w'→StepV V K σ w V' K' σ' w'→X c K' σ' w'→M.J (G (b.atR (a.put o.dst c) (.inRegion ops rest::k)) cs) w' V' Post) :
  M.J (G (b.atR a (.inRegion ops (i::rest)::k)) cs) w V Post:=
 J_op0 (X:=fun c K' σ' _ w'=>X c K' σ' w') hR hO ho hw hnd hT hs fun c K' σ' _ w' _ h1 h2 h3 h4=>hk c K' σ' w' _ h1 h2 h3 h4
theorem J_back{fr c:Frame}{X:Value→Prop}{w:World}{V:Nat→Prop}(h:LeavesAt M V fr w X)(hk:fr.kind= .normal)(hn:∀w₁ v,Rel V w w₁→X v→M.J (G (c.finish v) cs) w₁ V Post):M.J (G fr (c::cs)) w V Post:=by
 obtain⟨fn,hf,h2⟩:=h.fn
 refine M.step rfl fun w₁ hr=>?_
 obtain⟨v,h3,h4,h5⟩:=h2 w₁ hr
 refine⟨_,_,_,stepG_leave h.mode h.defers hk hf h3,⟨Nat.le_refl _,fun _ _ _=>rfl,rfl,rfl,rfl,Nat.le_refl _,fun e he=>h5 e (mem_seen he)⟩,?_⟩
 rw[newer_same];exact hn w₁ v hr h4
theorem J_call{g:FuncId}{args:List AV}{X:AV→List AObj→Prop}(hcall:ACallsM M g args σ X)(hR:R K σ w)(hO:OwnV M.Sh V K σ w)(ho:ops[i]? = some o)(hw:Region.wanted o (yielded ops a.tmps)=true)(hnd:∀c,o.op≠ .defer c)
  (hT:Tm E.P (execOp a.eval o) Any) {cargs:Array Value} (hrun:∀w₁,(execOp a.eval o).run E.P w₁= .ok (.enter g cargs) w₁) (hV:VRs K σ.length args cargs.toList)
  (hk:∀v c K' σ' w' V',X v σ'→VR K' σ'.length v c→R K' σ' w'→OwnV M.Sh V' K' σ' w'→StepV V K σ w V' K' σ' w'→M.J (G (b.atR (a.put o.dst c) (.inRegion ops rest::k)) cs) w' V' Post) :
  M.J (G (b.atR a (.inRegion ops (i::rest)::k)) cs) w V Post:=by
 refine M.step rfl fun w₁ hr=>?_
 have hR1:=hR.rely hO hr
 have hO1:=hO.rely hr
 refine⟨_,_,_,stepG_ope ho hw hnd (hrun w₁),gua_of hT hR1 hO1 (fun w₀ _=>⟨_,_,hrun w₀⟩) (hrun w₁) (.refl _ _ _) fun e he=>mem_lst he,?_⟩
 rw[newer_same]
 refine M.bind (hcall K w₁ V cargs .normal _ hR1 hO1 hV) ?_
 rintro g' w' V' ⟨fr,v,σ',K',rfl,_,hkd,hl,hX,hR',hO',hS'⟩
 refine J_back hl hkd fun w₂ c hr2 hv=>?_
 have hfin:(b.atR a (.inRegion ops (i::rest)::k)).finish c=b.atR (a.put o.dst c) (.inRegion ops rest::k):=by rw[Frame.finish_atR,ho];rfl
 rw[hfin]
 exact hk v c K' σ' w₂ V' hX hv (hR'.rely hO' hr2) (hO'.rely hr2) (((StepV.of_rel hr).trans hS').trans (.of_rel hr2))
theorem J_round{r:Nat}{args:List AV}{X:AV→List AObj→Prop}{S:MC E.P}(hM:S M)(hcall:AYield S r args σ X)(hR:R K σ w)(hO:OwnV M.Sh V K σ w)(ho:ops[i]? = some o)(hw:Region.wanted o (yielded ops a.tmps)=true)(hnd:∀c,o.op≠ .defer c)
  (hT:Tm E.P (execOp a.eval o) Any) {cargs:Array Value} (hrun:∀w₁ x w₂,(Instr.yield (K.φ r) cargs).run E.P w₁= .ok x w₂→(execOp a.eval o).run E.P w₁= .ok x w₂) (hV:VRs K σ.length args cargs.toList)
  (hk:∀v c K' σ' w' V',X v σ'→VR K' σ'.length v c→R K' σ' w'→OwnV M.Sh V' K' σ' w'→StepV V K σ w V' K' σ' w'→M.J (G (b.atR (a.put o.dst c) (.inRegion ops rest::k)) cs) w' V' Post) :
  M.J (G (b.atR a (.inRegion ops (i::rest)::k)) cs) w V Post:=by
 refine M.step rfl fun w₁ hr=>?_
 have hR1:=hR.rely hO hr
 have hO1:=hO.rely hr
 obtain⟨fn,tmps,as,body,h1,h2⟩:=hcall K w₁ cargs hR1 hV
 refine⟨_,_,_,stepG_opr ho hw hnd (hrun _ _ _ h1),gua_of hT hR1 hO1 (fun w₀ h₀=>?_) (hrun _ _ _ h1) (.refl _ _ _) fun e he=>mem_lst he,?_⟩
 ·obtain⟨_,_,_,_,h3,_⟩:=hcall K w₀ cargs h₀ hV
  exact⟨_,_,hrun _ _ _ h3⟩
 rw[newer_same]
 refine M.bind (h2 M hM V hO1 _ cs) ?_
 rintro g' w' V' ⟨v,c,σ',K',rfl,hX,hv,hR',hO',hS'⟩
 have hfin:(b.atR a (.inRegion ops (i::rest)::k)).finish c=b.atR (a.put o.dst c) (.inRegion ops rest::k):=by rw[Frame.finish_atR,ho];rfl
 rw[hfin]
 exact hk v c K' σ' w' V' hX hv hR' hO' ((StepV.of_rel hr).trans hS')
end
/-! ### operations one after the other, in the model -/
def wpOpM{P:Program}(M:RMode P)(ops:Array Oper)(i:Nat)(KK:Act→World→(Nat→Prop)→Prop)(a:Act)(w:World)(V:Nat→Prop):Prop:=
 ∀(b:Frame) (rest:List Nat) (k:List Item) (cs:List Frame) (Post:Goroutine→World→(Nat→Prop)→Prop),
  (∀a' w' V',KK a' w' V'→M.J (G (b.atR a' (.inRegion ops rest::k)) cs) w' V' Post)→M.J (G (b.atR a (.inRegion ops (i::rest)::k)) cs) w V Post
def wpOpsM{P:Program}(M:RMode P)(ops:Array Oper)(Q:Act→World→(Nat→Prop)→Prop):List Nat→Act→World→(Nat→Prop)→Prop
 | [],a,w,V=>Q a w V
 | i::rest,a,w,V=>wpOpM M ops i (wpOpsM M ops Q rest) a w V
theorem wpOpM.mono{P:Program}{M:RMode P}{ops:Array Oper}{i:Nat}{KK KK':Act→World→(Nat→Prop)→Prop}{a:Act}{w:World}{V:Nat→Prop}(h:wpOpM M ops i KK a w V)(hk:∀a w V,KK a w V→KK' a w V):wpOpM M ops i KK' a w V:=
 fun b rest k cs Post hp=>h b rest k cs Post fun a' w' V' hq=>hp a' w' V' (hk _ _ _ hq)
theorem wpOpsM.run{P:Program}{M:RMode P}{ops:Array Oper}{Q:Act→World→(Nat→Prop)→Prop}{b:Frame}{k:List Item}{cs:List Frame}{Post:Goroutine→World→(Nat→Prop)→Prop}
  (hp:∀a' w' V',Q a' w' V'→M.J (G (b.atR a' (.inRegion ops []::k)) cs) w' V' Post):∀(l:List Nat) (a:Act) (w:World) (V:Nat→Prop),wpOpsM M ops Q l a w V→M.J (G (b.atR a (.inRegion ops l::k)) cs) w V Post
 | [],a,w,V,h=>hp a w V h
 | i::l,a,w,V,h=>h b l k cs Post fun a' w' V' h'=>wpOpsM.run hp l a' w' V' h'
theorem wpOpM.unwanted{P:Program}{M:RMode P}{ops:Array Oper}{i:Nat}{o:Oper}{KK:Act→World→(Nat→Prop)→Prop}{a:Act}{w:World}{V:Nat→Prop}(ho:ops[i]? = some o)(hw:Region.wanted o (yielded ops a.tmps)=false)
  (h:∀w₁,Rel V w w₁→KK (a.put o.dst undef) w₁ V):wpOpM M ops i KK a w V:=fun b rest k cs Post hp=>by
 refine M.step rfl fun w₁ hr=>⟨_,_,_,stepG_no (by rw[ho];simpa using hw),.idle _ _ _,?_⟩
 rw[newer_same,ho]
 exact hp _ _ _ (h w₁ hr)
theorem next_sound{all os:List Oper}{dst:Option Tmp}{fr:Fr}{Q:Fr→List AObj→Prop}{Sh V V':Nat→Prop}{σ σ':List AObj}{w w':World}{K K':Kr}{a:Act}{v:AV}{c:Value}{X:Act→World→(Nat→Prop)→Prop}
  (ih:∀(K':Kr) (σ':List AObj) (w':World) (V':Nat→Prop) (fr:Fr) (a':Act),evOps E all os fr σ' Q→R K' σ' w'→OwnV Sh V' K' σ' w'→FR K' σ'.length E.N fr a'.tmps→StepV V K σ w V' K' σ' w'→a'.defers=a.defers→X a' w' V')
  (h:evNext E all os dst fr Q v σ') (hR:R K' σ' w') (hO:OwnV Sh V' K' σ' w') (hF:FR K σ.length E.N fr a.tmps) (hS:StepV V K σ w V' K' σ' w') (hv:VR K' σ'.length v c):X (a.put dst c) w' V':=by
 have hF':FR K' σ'.length E.N fr a.tmps:=hF.mono hS.ext hS.len
 cases dst with
 | none=>exact ih K' σ' w' V' fr a h hR hO hF' hS rfl
 | some d=>exact ih K' σ' w' V' (fr.put d v) _ h.2 hR hO (hF'.put h.1 hv) hS (put_defers _ _ _)
theorem opM_sound(hE:EnvOK E){M:RMode E.P}(hM:E.S M){fr:Fr}{σ:List AObj}{w:World}{V:Nat→Prop}{a:Act}{ops:Array Oper}{i:Nat}{o:Oper}{X:AV→List AObj→Prop}(ho:ops[i]? = some o)(hw:Region.wanted o (yielded ops a.tmps)=true)
  (h:evOp E fr σ o.type o.op X) (hR:R K σ w) (hO:OwnV M.Sh V K σ w) (hF:FR K σ.length E.N fr a.tmps) {KK:Act→World→(Nat→Prop)→Prop}
  (hk:∀K' σ' w' V' v c,X v σ'→R K' σ' w'→OwnV M.Sh V' K' σ' w'→VR K' σ'.length v c→StepV V K σ w V' K' σ' w'→KK (a.put o.dst c) w' V'):wpOpM M ops i KK a w V:=by
 intro b rest k cs Post hp
 have hplain:(match aop E fr σ o.type o.op with | some (v,σ')=>X v σ' | none=>False)→∃v σ',aop E fr σ o.type o.op=some (v,σ')∧X v σ':=fun h=>by
  split at h
  ·rename_i v σ' h1;exact⟨v,σ',h1,h⟩
  ·exact h.elim
 have hfin:(∃v σ',aop E fr σ o.type o.op=some (v,σ')∧X v σ')→(∀c,o.op≠ .defer c)→M.J (G (b.atR a (.inRegion ops (i::rest)::k)) cs) w V Post:=by
  intro⟨v,σ',h1,h2⟩ hnd
  refine J_op (X:=fun c K' σ'' w'=>σ''=σ'∧VR K' σ'.length v c) hR hO ho hw hnd (aop_tm hE hF h1) (fun w₁ hR1=>?_) (fun c K' σ'' w' V' g1 g2 g3 ⟨e,g4⟩=>?_)
  ·obtain⟨c,K',w',h3,h4,h5,h6⟩:=aop_sound hE hR1 hF h1
   exact⟨c,K',σ',w',h3,h5,h6,rfl,h4⟩
  ·subst e;exact hp _ _ _ (hk _ _ _ _ _ _ h2 g1 g2 g4 g3)
 obtain⟨dst,op,type,pos,after,guard⟩:=o
 simp only at h hplain
 cases op with
 | call c=>
  obtain⟨callee,args,ats⟩:=c
  cases callee with
  | builtin bi=>exact hfin (hplain h) (fun c hc=>by cases hc)
  | value f=>
   simp only[evOp] at h
   have hnd:∀c,(⟨dst,.call ⟨.value f,args,ats⟩,type,pos,after,guard⟩: Oper).op≠ .defer c:=fun c hc=>by cases hc
   split at h
   ·rename_i g p q as hf has
    replace h:=callA_sound hE h
    have hfv:=aeval_sound hF hf
    have hav:=aevals_sound hF has
    generalize hfe:a.eval f=fv at hfv
    cases hfv with
    | fn _ _ _ p' q' l1 l2 g1 g2=>
     have heq:execOp a.eval ⟨dst,.call ⟨.value f,args,ats⟩,type,pos,after,guard⟩= callFunc g (p'.toArray++args.map a.eval++q'.toArray):=by
      simp only[execOp,resolve,hfe,Deferred.ofValue]
      rfl
     refine J_call (h.2 M hM) hR hO ho hw hnd (by rw[heq];exact h.1.tm _) (fun w₁=>by rw[heq];exact h.1.run _ _) ?_ (fun v c K' σ' w' V' h1 h2 h3 h4 h5=>hp _ _ _ (hk _ _ _ _ _ _ h1 h3 h4 h2 h5))
     have:=(VRs.append (K:=K) (n:=σ.length) (l:=p) (l':=p') ⟨l1,g1⟩ hav).append (m:=q) (m':=q') ⟨l2,g2⟩
     simpa using this
   ·rename_i r as hf has
    have hfv:=aeval_sound hF hf
    have hav:=aevals_sound hF has
    generalize hfe:a.eval f=fv at hfv
    cases hfv with
    | yield _ hr=>
     have e0:(#[]:Array Value)++args.map a.eval=args.map a.eval:=by simp
     have heq:execOp a.eval ⟨dst,.call ⟨.value f,args,ats⟩,type,pos,after,guard⟩= Instr.yield (K.φ r) (args.map a.eval):=by
      simp only[execOp,resolve,hfe,Deferred.ofValue]
      show Instr.yield (K.φ r) (#[]++args.map a.eval)=_
      rw[e0]
     refine J_round hM h hR hO ho hw hnd ?_ (cargs:=args.map a.eval) (fun w₁ x w₂ h1=>by rw[heq];exact h1) (by simpa using hav) (fun v c K' σ' w' V' h1 h2 h3 h4 h5=>hp _ _ _ (hk _ _ _ _ _ _ h1 h3 h4 h2 h5))
     rw[heq]
     unfold Instr.yield Instr.getLoop
     refine Tm_bind (Tm_bind (Tm_getObj fun o=>?_))
     split
     ·exact Tm_pure (Tm_ite (Tm_bind Tm_stuck) trivial)
     ·trivial
   ·exact h.elim
  | invoke r m=>
   simp only[evOp] at h
   have hnd:∀c,(⟨dst,.call ⟨.invoke r m,args,ats⟩,type,pos,after,guard⟩: Oper).op≠ .defer c:=fun c hc=>by cases hc
   split at h
   ·rename_i t v0 as hf has
    split at h
    ·rename_i g hg
     replace h:=callA_sound hE h
     have hfv:=aeval_sound hF hf
     have hav:=aevals_sound hF has
     generalize hfe:a.eval r=fv at hfv
     cases hfv with
     | iface _ _ c0 hc0=>
      have e1:(#[Value.iface t c0]++args.map a.eval)[0]? = some (.iface t c0):=by rw[Array.getElem?_append_left (by simp)];rfl
      have e2:(#[Value.iface t c0]++args.map a.eval).extract 1 (#[Value.iface t c0]++args.map a.eval).size=args.map a.eval:=by
       apply Array.ext';simp;exact List.take_of_length_le (by simp)
      have heq:execOp a.eval ⟨dst,.call ⟨.invoke r m,args,ats⟩,type,pos,after,guard⟩= callMethod (.iface t c0) m (args.map a.eval):=by
       simp only[execOp,resolve,hfe]
       show invoke (.fn (.method m) #[]) (#[Value.iface t c0]++args.map a.eval)=_
       simp only[invoke,e1,e2]
      have hrun:∀w₁,(callMethod (.iface t c0) m (args.map a.eval)).run E.P w₁= .ok (.enter g (#[c0]++args.map a.eval)) w₁:=fun w₁=>by
       simp only[callMethod,Sem.run_bind,run_program,Result.andThen_ok,hE.mt t m g hg]
       exact h.1.run _ _
      refine J_call (h.2 M hM) hR hO ho hw hnd ?_ (fun w₁=>by rw[heq];exact hrun w₁) ?_ (fun v c K' σ' w' V' h1 h2 h3 h4 h5=>hp _ _ _ (hk _ _ _ _ _ _ h1 h3 h4 h2 h5))
      ·rw[heq]
       unfold callMethod
       refine Tm_bind (Tm_program (Tm_bind (Tm_mono (hE.mtT t m g hg c0) fun r hr=>?_)))
       obtain⟨f',rc⟩:=r
       simp only at hr
       subst hr
       exact h.1.tm _
      ·have:=VRs.cons hc0 hav
       simpa using this
    ·exact h.elim
   ·exact h.elim
 | next it bb=>
  simp only[evOp] at h
  have hnd:∀c,(⟨dst,.next it bb,type,pos,after,guard⟩: Oper).op≠ .defer c:=fun c hc=>by cases hc
  cases bb with
  | true=>
   rw[if_pos rfl] at h
   cases hit:aeval fr it with
   | none=>rw[hit] at h;exact h.elim
   | some v0=>
    rw[hit] at h
    refine J_op (X:=fun c K' σ' w'=>∃v,X v σ'∧VR K' σ'.length v c) hR hO ho hw hnd (Tm_val Tm_next) (fun w₁ hR1=>?_) (fun c K' σ'' w' V' g1 g2 g3 ⟨v,g4,g5⟩=>hp _ _ _ (hk _ _ _ _ _ _ g4 g1 g2 g5 g3))
    obtain⟨v,σ',c',w',h1,h2,h3,h4,h5⟩:=strNext_sound (P:=E.P) (T:=type) hR1 (aeval_sound hF hit) h
    exact⟨c',K,σ',w',.inl (by simp only[execOp,Sem.run_bind,h1,Result.andThen_ok,Sem.run_pure]),h4,h5,v,h2,h3⟩
  | false=>
   rw[if_neg (by simp)] at h
   cases hit:aeval fr it with
   | none=>rw[hit] at h;exact h.elim
   | some v0=>
    rw[hit] at h
    refine J_op (X:=fun c K' σ' w'=>∃v,X v σ'∧VR K' σ'.length v c) hR hO ho hw hnd (Tm_val Tm_next) (fun w₁ hR1=>?_) (fun c K' σ'' w' V' g1 g2 g3 ⟨v,g4,g5⟩=>hp _ _ _ (hk _ _ _ _ _ _ g4 g1 g2 g5 g3))
    obtain⟨v,σ',c',w',h1,h2,h3,h4,h5⟩:=mapNext_sound (P:=E.P) (T:=type) hR1 (aeval_sound hF hit) h
    exact⟨c',K,σ',w',.inl (by simp only[execOp,Sem.run_bind,h1,Result.andThen_ok,Sem.run_pure]),h4,h5,v,h2,h3⟩
 | binOp bo t x y u=>
  simp only[evOp] at h
  have hnd:∀c,(⟨dst,.binOp bo t x y u,type,pos,after,guard⟩: Oper).op≠ .defer c:=fun c hc=>by cases hc
  cases hy:isNilC y with
  | false=>rw[hy] at h;exact hfin (hplain h) hnd
  | true=>
   rw[hy] at h
   obtain rfl:=isNilC_inv hy
   obtain⟨e,u',Z,hkd,hx,hZ,hX⟩:=nilA_inv h
   have hk':(E.ty t).kd≠ .other:=by rw[hkd];simp
   obtain⟨d,hu,hd⟩:=(hE.ty t hk').kd
   rw[hkd] at hd;simp only[KdOK] at hd;subst hd
   obtain⟨q,len,cap,hq,hnil⟩:=hZ _ _ _ (aeval_sound hF hx)
   have hc0:a.eval (.const (.slice none 0 0))= .slice none 0 0:=rfl
   have hte:Tm E.P (Op.equal t (.slice q len cap) (.slice none 0 0)) Any:=by
    show Tm E.P (Op.equalIn (9999+1) t (.slice q len cap) (.slice none 0 0)) Any
    unfold Op.equalIn
    refine Tm_bind (Tm_underlyingP fun d hd=>?_)
    rw[hu] at hd;simp only[Option.some.injEq] at hd;subst hd
    cases q<;> trivial
   have heq:=fun w=>run_equal_slice_nil (P:=E.P) w t e q len cap hu
   rcases hX with⟨rfl,h1,h2⟩ | ⟨rfl,h1,h2⟩
   ·refine J_op (X:=fun c K' σ' w'=>σ'=σ∧c= .bool q.isNone) hR hO ho hw hnd ?_ (fun w₁ hR1=>⟨_,K,σ,w₁,.inl (by simp[execOp,hq,hc0,eqGuard,binOp,heq]),hR1,.refl _ _ _,rfl,rfl⟩) (fun c K' σ'' w' V' g1 g2 g3 ⟨e,g4⟩=>?_)
    ·refine Tm_val (Tm_bind (Tm_eqGuard ?_))
     rw[hq,hc0]
     exact Tm_bind (Tm_mono hte fun _ _=>trivial)
    ·subst e;subst g4
     cases hn:q.isNone with
     | false=>exact hp _ _ _ (hk _ _ _ _ _ _ h1 g1 g2 (.bool _) g3)
     | true=>exact hp _ _ _ (hk _ _ _ _ _ _ (h2 (hnil hn)) g1 g2 (.bool _) g3)
   ·refine J_op (X:=fun c K' σ' w'=>σ'=σ∧c= .bool (!q.isNone)) hR hO ho hw hnd ?_ (fun w₁ hR1=>⟨_,K,σ,w₁,.inl (by simp[execOp,hq,hc0,eqGuard,binOp,heq]),hR1,.refl _ _ _,rfl,rfl⟩) (fun c K' σ'' w' V' g1 g2 g3 ⟨e,g4⟩=>?_)
    ·refine Tm_val (Tm_bind (Tm_eqGuard ?_))
     rw[hq,hc0]
     exact Tm_bind (Tm_mono hte fun _ _=>trivial)
    ·subst e;subst g4
     cases hn:q.isNone with
     | false=>exact hp _ _ _ (hk _ _ _ _ _ _ h1 g1 g2 (.bool _) g3)
     | true=>exact hp _ _ _ (hk _ _ _ _ _ _ (h2 (hnil hn)) g1 g2 (.bool _) g3)
 | defer c=>simp[evOp,aop,pop,litOp,hop] at h
 | _=>exact hfin (hplain h) (fun c hc=>by cases hc)
theorem evOps_sound(hE:EnvOK E){M:RMode E.P}(hM:E.S M){ops:Array Oper}{Q:Fr→List AObj→Prop}{V0:Nat→Prop}{K0:Kr}{σ0:List AObj}{w0:World}{ds:List Deferred}:∀(l:List Nat) (os:List Oper),l.map (fun i=>ops[i]?)=os.map some→
  ∀(K:Kr) (σ:List AObj) (w:World) (V:Nat→Prop) (fr:Fr) (a:Act),evOps E ops.toList os fr σ Q→R K σ w→OwnV M.Sh V K σ w→FR K σ.length E.N fr a.tmps→StepV V0 K0 σ0 w0 V K σ w→a.defers=ds→
   wpOpsM M ops (Done E M.Sh V0 K0 σ0 w0 ds Q) l a w V
 | [],os,hl,K,σ,w,V,fr,a,h,hR,hO,hF,hS,hd=>by
  cases os with
  | cons=>simp at hl
  | nil=>exact⟨K,σ,fr,h,hR,hO,hF,hS,hd⟩
 | i::l,os,hl,K,σ,w,V,fr,a,h,hR,hO,hF,hS,hd=>by
  cases os with
  | nil=>simp at hl
  | cons o os=>
   simp only[List.map_cons,List.cons.injEq] at hl
   obtain⟨hi,hl⟩:=hl
   have ih:∀(K':Kr) (σ':List AObj) (w':World) (V':Nat→Prop) (fr:Fr) (a':Act),evOps E ops.toList os fr σ' Q→R K' σ' w'→OwnV M.Sh V' K' σ' w'→FR K' σ'.length E.N fr a'.tmps→StepV V K σ w V' K' σ' w'→a'.defers=a.defers→
     wpOpsM M ops (Done E M.Sh V0 K0 σ0 w0 ds Q) l a' w' V':=fun K' σ' w' V' fr a' h1 h2 h3 h4 h5 h6=>evOps_sound hE hM l os hl K' σ' w' V' fr a' h1 h2 h3 h4 (hS.trans h5) (h6.trans hd)
   rw[evOps_cons] at h
   show wpOpM M ops i _ a w V
   split at h
   ·exact h.elim
   ·rename_i b hb
    have hw:=wantA_sound hF hb
    cases b with
    | false=>exact .unwanted hi hw fun w₁ hr=>next_sound ih (h.2 rfl) (hR.rely hO hr) (hO.rely hr) hF (.of_rel hr) undef_VR
    | true=>exact opM_sound hE hM hi hw (h.1 rfl) hR hO hF fun K' σ' w' V' v c h1 h2 h3 h4 h5=>next_sound ih h1 h2 h3 hF h5 h4
theorem ARun.region(hE:EnvOK E){id:Nat}{ops:Array Oper}{k:List Item}{fr:Fr}{σ:List AObj}{Q:Option Code→Fr→List AObj→Prop}
  (h:evOps E ops.toList ops.toList fr σ fun fr σ=>ARun E ro k fr σ Q):ARun E ro (.code (.region id ops false)::k) fr σ Q:=by
 intro M hM K w V a b cs hb hR hO hF
 have hl:(List.range ops.size).map (fun i=>ops[i]?)=ops.toList.map some:=by
  apply List.ext_getElem
  ·simp
  ·intro i h1 h2
   simp at h1 h2⊢
 refine M.step rfl fun w₁ hr=>⟨_,_,_,show stepG E.P M.main (G (b.atR a (.code (.region id ops false)::k)) cs) w₁= .go (G (b.atR a (.inRegion ops (List.range ops.size)::k)) cs) w₁ by simp[G,stepG,stepG.exec,Frame.atR],.idle _ _ _,?_⟩
 rw[newer_same]
 refine wpOpsM.run ?_ _ _ _ _ (evOps_sound hE hM (List.range ops.size) ops.toList hl K σ w₁ V fr a h (hR.rely hO hr) (hO.rely hr) hF (.of_rel (V:=V) hr) rfl)
 rintro a' w' V' ⟨K',σ',fr',hq,h2,h3,h4,h5,h6⟩
 refine M.step rfl fun w₂ hr2=>⟨_,_,_,show stepG E.P M.main (G (b.atR a' (.inRegion ops []::k)) cs) w₂= .go (G (b.atR a' k) cs) w₂ by simp[G,stepG,stepG.exec,Frame.atR],.idle _ _ _,?_⟩
 rw[newer_same]
 exact ARun.go (hq M hM) (hb.mono h5.ext h5.len) (h2.rely h3 hr2) (h3.rely hr2) h4 (h5.trans (.of_rel hr2)) h6
end Go.Mu
namespace Go.Mu
open Go Go.Conc
variable {E:Env}{ro:Option Nat}{K:Kr}{n:Nat}
def resA1(E:Env)(fr:Fr)(σ:List AObj):ResultVar→Option AV
 | .tmp t=>fr.get t
 | .cell a t=>match fr.get a with
  | some (.ptr r off)=>match hget σ r with
   | some (.cells cs)=>subAt off (E.ty t).sz cs (E.ty t).kd.agg
   | _=>none
  | _=>none
def resAs(E:Env)(fr:Fr)(σ:List AObj):List ResultVar→Option (List AV)
 | []=>some []
 | r::rs=>match resA1 E fr σ r,resAs E fr σ rs with
  | some v,some vs=>some (v::vs)
  | _,_=>none
def oneOf:List AV→AV
 | [v]=>v
 | vs=> .tup vs
theorem resA1_sound(hE:EnvOK E){σ:List AObj}{w:World}(hR:R K σ w){fr:Fr}{a:Act}(hF:FR K σ.length E.N fr a.tmps){r:ResultVar}{v:AV}(h:resA1 E fr σ r=some v) :
  ∃c,(match r with | .tmp t=>pure (a.tmps.getD t undef) | .cell x t=>do loadVar t (← asAddr (a.tmps.getD x undef)):Sem Value).run E.P w= .ok c w∧VR K σ.length v c:=by
 cases r with
 | tmp t=>
  obtain⟨c,h1,h2⟩:=hF.2 t v h
  exact⟨c,by simp[h1],h2⟩
 | cell x t=>
  simp only[resA1] at h
  split at h
  ·rename_i r off hx
   split at h
   ·rename_i cs hg
    obtain⟨c,h1,h2⟩:=hF.2 x _ hx
    obtain⟨hr,rfl⟩:=h2.ptr_inv
    obtain⟨f,hc⟩:=cells_of_obj hR hg
    obtain⟨c,g1,g2⟩:=load_sound (P:=E.P) (w:=w) hE.ty hc h
    rw[Nat.zero_add] at g1
    exact⟨c,by simp[h1,asAddr,g1],g2⟩
   ·cases h
  ·cases h
theorem resAs_sound(hE:EnvOK E){σ:List AObj}{w:World}(hR:R K σ w){fr:Fr}{a:Act}(hF:FR K σ.length E.N fr a.tmps):∀{rs:List ResultVar} {vs:List AV},resAs E fr σ rs=some vs→
  ∃cs,(rs.mapM fun(r:ResultVar)=>(match r with | .tmp t=>pure (a.tmps.getD t undef) | .cell x t=>do loadVar t (← asAddr (a.tmps.getD x undef)):Sem Value)).run E.P w= .ok cs w∧VRs K σ.length vs cs
 | [],vs,h=>by simp[resAs] at h;subst h;exact⟨[],rfl,.nil⟩
 | r::rs,vs,h=>by
  simp only[resAs] at h
  split at h
  ·rename_i v vs' h1 h2
   simp at h;subst h
   obtain⟨c,g1,g2⟩:=resA1_sound hE hR hF h1
   obtain⟨cs,g3,g4⟩:=resAs_sound hE hR hF h2
   exact⟨c::cs,by simp only[List.mapM_cons,Sem.run_bind,g1,g3,Result.andThen_ok,Sem.run_pure],.cons g2 g4⟩
  ·cases h
theorem results_sound(hE:EnvOK E){σ:List AObj}{w:World}(hR:R K σ w){fr:Fr}{a:Act}(hF:FR K σ.length E.N fr a.tmps){fn:Func}{vs:List AV}(h:resAs E fr σ fn.results.toList=some vs) :
  ∃c,(results fn a.tmps).run E.P w= .ok c w∧VR K σ.length (oneOf vs) c:=by
 obtain⟨cs,h1,h2⟩:=resAs_sound hE hR hF h
 have h3:(fn.results.mapM fun(r:ResultVar)=>(match r with | .tmp t=>pure (a.tmps.getD t undef) | .cell x t=>do loadVar t (← asAddr (a.tmps.getD x undef)):Sem Value)).run E.P w= .ok cs.toArray w:=by
  rw[Array.mapM_eq_mapM_toList,Sem.run_map,h1];rfl
 have h4:(results fn a.tmps).run E.P w= .ok (if h:cs.toArray.size=1 then cs.toArray[0] else .tuple cs.toArray) w:=by
  have h5:(results fn a.tmps).run E.P w=((fn.results.mapM fun(r:ResultVar)=>(match r with | .tmp t=>pure (a.tmps.getD t undef) | .cell x t=>do loadVar t (← asAddr (a.tmps.getD x undef)):Sem Value)).run E.P w).andThen
    fun vs w'=> .ok (if h:vs.size=1 then vs[0] else .tuple vs) w':=by
   unfold results
   rw[Sem.run_bind]
   rfl
  rw[h5,h3];rfl
 refine⟨_,h4,?_⟩
 match vs,cs,h2 with
 | [v],[c],h2=>exact h2.head
 | [],[],h2=>exact VRs.tup (cs:=#[]) .nil
 | v::u::vs,c::d::cs,h2=>
  have:¬(c::d::cs).toArray.size=1:=by simp
  rw[dif_neg this]
  exact VRs.tup (cs:=(c::d::cs).toArray) (by simpa using h2)
 | [],_::_,h2=>exact absurd h2.1 (by simp)
 | [_],[],h2=>exact absurd h2.1 (by simp)
 | [_],_::_::_,h2=>exact absurd h2.1 (by simp)
 | _::_::_,[],h2=>exact absurd h2.1 (by simp)
 | _::_::_,[_],h2=>exact absurd h2.1 (by simp)
theorem R.freeTurn{σ:List AObj}{w:World}(h:R K σ w){r0:Nat}(hf:Free K σ r0)(o o':Obj)(ho:w.heap[r0]? = some o)(hc:∀p,w.cell? ⟨r0,p,none⟩= none)(hnc:∀cs E fz,o≠ .cells cs E fz) :
  R K σ {w with heap:=w.heap.setIfInBounds r0 o'}∧(∀p,K.S r0 p=none):=by
 have hS:∀p,K.S r0 p=none:=fun p=>by
  cases hk:K.S r0 p with
  | none=>rfl
  | some v=>have:=h.stab r0 p v hk;rw[hc p] at this;cases this
 have hother:∀b,b≠r0→({w with heap:=w.heap.setIfInBounds r0 o'}:World).heap[b]? = w.heap[b]? :=fun b hb=>by
  show(w.heap.setIfInBounds r0 o')[b]? = _
  rw[Array.getElem?_setIfInBounds_ne (Ne.symm hb)]
 have hlt:∀{r o},σ[r]? = some o→r<σ.length:=fun h=>(List.getElem?_eq_some_iff.1 h).1
 refine⟨⟨fun b p v hv=>?_,fun r o1 hr=>?_,h.inj,fun g cs hg=>?_⟩,hS⟩
 ·have hb:b≠r0:=fun e=>by subst e;rw[hS p] at hv;cases hv
  rw[cell_of_heap (hother b hb)];exact h.stab b p v hv
 ·exact(h.obj r o1 hr).mono (hlt hr) (.refl _ _) (Nat.le_refl _) rfl fun b hb=>⟨hother b (fun e=>hf r o1 hr (e▸hb)),fun _=>rfl⟩
 ·obtain⟨⟨E,fz,h1⟩,h2⟩:=h.lay g cs hg
  have hb:g≠r0:=fun e=>by subst e;rw[ho] at h1;exact hnc _ _ _ (Option.some.inj h1)
  exact⟨⟨E,fz,by rw[hother g hb];exact h1⟩,h2⟩
theorem StepV.turnNew{V0 V:Nat→Prop}{K0 K:Kr}{σ0 σ:List AObj}{w0 w:World}(h:StepV V0 K0 σ0 w0 V K σ w){r:Nat}(hr:w0.heap.size≤r)(o:Obj):StepV V0 K0 σ0 w0 V K σ {w with heap:=w.heap.setIfInBounds r o}:=by
 have hother:∀b:Nat,b<w0.heap.size→({w with heap:=w.heap.setIfInBounds r o}:World).heap[b]? = w.heap[b]? :=fun b hb=>by
  show(w.heap.setIfInBounds r o)[b]? = _
  rw[Array.getElem?_setIfInBounds_ne (by omega)]
 exact⟨h.ext,h.len,by simpa using h.size,fun b hb hv hf=>by
  obtain⟨h1,h2⟩:=h.keep b hb hv hf
  exact⟨(hother b hb).trans h1,h2⟩,h.sub,h.new,h.os,h.tape,h.output⟩
theorem stepG_unmark{P:Program}{main:Bool}{b:Frame}{a:Act}{todo:List Item}{cs:List Frame}{w:World}{r:Nat}{ds:List Deferred}(ha:a.defers=mark r::ds)(hr:w.heap[r]? = some (.deferred (some []))) :
  ∃es,stepG P main (G {b.atR a todo with mode:= .returning} cs) w= .go (G {b.atR {a with defers:=ds} todo with mode:= .returning} cs) {w with heap:=w.heap.setIfInBounds r (.deferred none)} es∧
   ∀e∈es,e=⟨.obj r,false,false⟩∨e=⟨.obj r,true,false⟩:=by
 have htake:(Instr.takeDeferred r).run P w= .ok [] {w with heap:=w.heap.setIfInBounds r (.deferred none)}:=by
  simp[Instr.takeDeferred,getObj,setObj,Sem.run,hr]
 have hev:(Instr.takeDeferred r).events P w #[]= #[⟨.obj r,false,false⟩,⟨.obj r,true,false⟩]:=by
  simp[-Sem.runT_eq,Instr.takeDeferred,getObj,setObj,Sem.events,Sem.runT,bind,Sem.bind,hr,Obj.isChan,pure]
 refine⟨seen P b.fn ((Instr.takeDeferred r).events P w #[]),?_,fun e he=>?_⟩
 ·simp[G,stepG,unwind,Frame.atR,ha,mark,htake,GStep.after]
 ·have:=mem_seen he
  rw[hev] at this
  simpa using this
theorem J_unmarks{M:RMode E.P}{σ:List AObj}{b:Frame}{todo:List Item}{cs:List Frame}{Post:Goroutine→World→(Nat→Prop)→Prop}{V0:Nat→Prop}{K0:Kr}{σ0:List AObj}{w0:World}:∀(ms:List Nat) (a:Act) (w:World) (V:Nat→Prop),a.defers=ms.map mark→R K σ w→OwnV M.Sh V K σ w→StepV V0 K0 σ0 w0 V K σ w→Marks M.Sh V K σ w w0.heap.size ms→
  (∀w' V',R K σ w'→OwnV M.Sh V' K σ w'→StepV V0 K0 σ0 w0 V' K σ w'→M.J (G {b.atR {a with defers:=[]} todo with mode:= .returning} cs) w' V' Post)→
  M.J (G {b.atR a todo with mode:= .returning} cs) w V Post
 | [],a,w,V,ha,hR,hO,hS,hM,hk=>by
  have:a= {a with defers:=[]}:=by cases a;simp at ha;simp[ha]
  rw[this];exact hk w V hR hO hS
 | r::ms,a,w,V,ha,hR,hO,hS,hM,hk=>by
  refine M.step rfl fun w₁ hr=>?_
  have hw:=hM.own r (by simp)
  have hh0:=hM.heap r (by simp)
  have hlt:r<w.heap.size:=(Array.getElem?_eq_some_iff.1 hh0).1
  have hh:w₁.heap[r]? = some (.deferred (some [])):=by rw[hr.keep r hlt hw.1];exact hh0
  have hR1:=hR.rely hO hr
  have hO1:=hO.rely hr
  obtain⟨es,h1,h2⟩:=stepG_unmark (P:=E.P) (main:=M.main) (b:=b) (todo:=todo) (cs:=cs) (ds:=ms.map mark) (by simpa using ha) hh
  have hcell:∀p,w₁.cell? ⟨r,p,none⟩= none:=fun p=>by simp[World.cell?,hh]
  obtain⟨hR',_⟩:=hR1.freeTurn (hM.free r (by simp)) _ (.deferred none) hh hcell (fun _ _ _=>by simp)
  have hlt1:r<w₁.heap.size:=Nat.lt_of_lt_of_le hlt hr.size
  have hsz:({w₁ with heap:=w₁.heap.setIfInBounds r (.deferred none)}:World).heap.size=w₁.heap.size:=by simp
  refine⟨_,_,es,h1,⟨by rw[hsz];exact Nat.le_refl _,fun q hq hv=>?_,rfl,rfl,rfl,Nat.le_refl _,fun e he=>?_⟩,?_⟩
  ·show(w₁.heap.setIfInBounds r _)[q]? = _
   rw[Array.getElem?_setIfInBounds_ne]
   intro e;subst e;exact hv.elim (fun h=>h hw.1) hw.2
  ·rw[hsz]
   rcases h2 e he with rfl | rfl
   ·exact⟨hlt1,rfl,.inr hw⟩
   ·exact⟨hlt1,rfl,.inr hw⟩
  ·rw[hsz,newer_same]
   have hnd:=List.nodup_cons.1 hM.nodup
   have hS1:StepV V0 K0 σ0 w0 V K σ w₁:=hS.trans (.of_rel hr)
   refine J_unmarks ms {a with defers:=ms.map mark} _ V rfl hR' ⟨hO1.obj,hO1.stab,hO1.lay,fun b hb=>by rw[hsz];exact hO1.sh b hb⟩ (hS1.turnNew (hM.lo r (by simp)) _) ⟨hnd.2,fun q hq=>hM.lo q (by simp[hq]),fun q hq=>?_,fun q hq=>hM.free q (by simp[hq]),fun q hq=>hM.own q (by simp[hq])⟩ hk
   show(w₁.heap.setIfInBounds r _)[q]? = _
   rw[Array.getElem?_setIfInBounds_ne (fun e=>by subst e;exact hnd.1 hq),hr.keep q (Array.getElem?_eq_some_iff.1 (hM.heap q (by simp[hq]))).1 (hM.own q (by simp[hq])).1]
   exact hM.heap q (by simp[hq])
theorem Tm_results{P:Program}{fn:Func}{tmps:Array Value}:Tm P (results fn tmps) Any:=by
 unfold results
 rw[Array.mapM_eq_mapM_toList]
 have hm:∀(l:List ResultVar),Tm P (l.mapM fun(r:ResultVar)=>(match r with | .tmp t=>pure (tmps.getD t undef) | .cell x t=>do loadVar t (← asAddr (tmps.getD x undef)):Sem Value):Sem (List Value)) Any:=by
  intro l
  induction l with
  | nil=>trivial
  | cons r l ih=>
   rw[List.mapM_cons]
   refine Tm_bind ?_
   cases r with
   | tmp t=>exact Tm_pure (Tm_bind (Tm_mono ih fun _ _=>trivial))
   | cell x t=>exact Tm_bind (Tm_asAddr fun a=>Tm_loadVar fun v=>Tm_bind (Tm_mono ih fun _ _=>trivial))
 exact Tm_bind (Tm_map (Tm_mono (hm _) fun _ _=>trivial))
def number:Nat→List AV→List (Nat×AV)
 | _,[]=>[]
 | i,v::vs=>(i,v)::number (i+1) vs
theorem lookA_number:∀(vs:List AV) (i t:Nat) (v:AV),lookA (number i vs) t=some v→i≤t∧vs[t-i]? = some v
 | [],i,t,v,h=>by simp[number,lookA] at h
 | u::vs,i,t,v,h=>by
  simp only[number,lookA] at h
  by_cases e:i=t
  ·subst e;simp at h;subst h;exact⟨Nat.le_refl _,by simp⟩
  ·rw[if_neg e] at h
   obtain⟨h1,h2⟩:=lookA_number vs (i+1) t v h
   refine⟨by omega,?_⟩
   have:t-i=(t- (i+1))+1:=by omega
   rw[this];simpa using h2
theorem ACalls.of_run(hE:EnvOK E){f:FuncId}{fn:Func}{c:Code}{args:List AV}{σ:List AObj}{Q:AV→List AObj→Prop}(kp:Nat→Bool)(hf:E.P.funcs[f]? = some fn)(hb:fn.body=some c)(hN:fn.ntmps=E.N)(hA:args.length≤E.N)
  (hC:Callable E.P f)
  (h:ARun E none [.code c] ⟨kp,[],number 0 args⟩ σ fun j fr σ'=>(j=none∨j=some .ret)∧∃vs,resAs E fr σ' fn.results.toList=some vs∧Q (oneOf vs) σ'):ACalls E.S f args σ Q:=by
 refine⟨hC,fun M hM K w V cargs kd cs hR hO hV=>?_⟩
 let b:Frame:={(default:Frame) with fn:=f,kind:=kd,roundOf:=none}
 have hcl:cargs.size=args.length:=by have:=hV.1;simpa using this.symm
 have henter:Frame.enter E.P f cargs kd=b.atR {tmps:=cargs++Array.replicate (fn.ntmps-cargs.size) undef,defers:=[]} [.code c]:=by
  simp[Frame.enter,Frame.atR,hf,hb,b]
 have hF:FR K σ.length E.N ⟨kp,[],number 0 args⟩ (cargs++Array.replicate (fn.ntmps-cargs.size) undef):=by
  refine⟨by simp;omega,fun t v hv=>?_⟩
  have hv':(if kp t=true then lookA (number 0 args) t else lookA [] t)=some v:=hv
  split at hv'
  ·obtain⟨_,h2⟩:=lookA_number args 0 t v hv'
   obtain⟨c,h3,h4⟩:=hV.get (i:=t) (by simpa using h2)
   have hlt:t<cargs.size:=by
    have:=(List.getElem?_eq_some_iff.1 h3).1;simpa using this
   refine⟨c,?_,h4⟩
   rw[Array.getElem?_append_left hlt]
   simpa using h3
  ·cases hv'
 rw[henter]
 refine M.bind (h M hM K w V {tmps:=cargs++Array.replicate (fn.ntmps-cargs.size) undef,defers:=[]} b cs rfl hR hO hF) ?_
 rintro g' w' V' ⟨K',σ',fr',a',todo',j,ms,rfl,h1,⟨hj,vs,h3,h4⟩,h5,h5',h6,h7,h8,h9⟩
 simp only[List.append_nil] at h8
 have hret:∀w₁,stepG E.P M.main (G (b.atR a' todo') cs) w₁= .go (G {b.atR a' todo' with mode:= .returning} cs) w₁:=fun w₁=>by
  cases h1 with
  | nil=>simp[G,stepG,stepG.exec,Frame.atR,b]
  | ret k=>simp[G,stepG,stepG.exec,Frame.atR,b]
  | exit id k hk=>rcases hj with hj | hj<;> cases hj
 refine M.step rfl fun w₁ hr=>⟨_,_,_,hret w₁,.idle _ _ _,?_⟩
 rw[newer_same]
 have hR1:=h5.rely h5' hr
 have hO1:=h5'.rely hr
 refine J_unmarks (b:=b) (todo:=todo') ms a' w₁ V' h8 hR1 hO1 (h7.trans (.of_rel hr)) ⟨h9.nodup,h9.lo,fun r hr'=>by rw[hr.keep r (Array.getElem?_eq_some_iff.1 (h9.heap r hr')).1 (h9.own r hr').1];exact h9.heap r hr',h9.free,h9.own⟩ fun w2 V2 g1 g2 g3=>M.ret ?_
 refine⟨{b.atR {a' with defers:=[]} todo' with mode:= .returning},_,σ',K',rfl,rfl,rfl,⟨rfl,rfl,fn,hf,fun w3 hr3=>?_⟩,h4,g1,g2,g3⟩
 have hR3:=g1.rely g2 hr3
 obtain⟨c',k1,k2⟩:=results_sound hE hR3 (a:={a' with defers:=[]}) h6 h3
 refine⟨c',k1,k2,?_⟩
 exact(gua_of Tm_results hR3 (g2.rely hr3) (fun w₀ h₀=>by
  obtain⟨c0,k3,_⟩:=results_sound hE h₀ (a:={a' with defers:=[]}) h6 h3
  exact⟨_,_,k3⟩) k1 (.refl _ _ _) fun e he=>he).evs
end Go.Mu
namespace Go.Mu
open Go Go.Conc
variable {E:Env}{ro:Option Nat}{K:Kr}
abbrev Post:=Option Code→Fr→List AObj→Prop
theorem evOp_mono{fr:Fr}{σ:List AObj}{type:TypeId}{op:Op}{X Y:AV→List AObj→Prop}(hn:∀v σ,X v σ→Y v σ)(h:evOp E fr σ type op X):evOp E fr σ type op Y:=by
 have hplain:(match aop E fr σ type op with | some (v,σ')=>X v σ' | none=>False)→(match aop E fr σ type op with | some (v,σ')=>Y v σ' | none=>False):=fun h=>by
  split at h
  ·exact hn _ _ h
  ·exact h.elim
 cases op with
 | call c=>
  obtain⟨callee,args,ats⟩:=c
  cases callee with
  | builtin b=>exact hplain h
  | value f=>
   simp only[evOp] at h⊢
   split at h
   ·exact callA_mono hn h
   ·intro K w cargs hR hV
    obtain⟨fn,tmps,assign,body,h1,h2⟩:=h K w cargs hR hV
    exact⟨fn,tmps,assign,body,h1,fun M hM V hO c cs=>M.bind (h2 M hM V hO c cs) fun g' w' V' ⟨v,c',σ',K',g1,g2,g3⟩=>M.ret ⟨v,c',σ',K',g1,hn _ _ g2,g3⟩⟩
   ·exact h.elim
  | invoke r m=>
   simp only[evOp] at h⊢
   split at h
   ·split at h
    ·exact callA_mono hn h
    ·exact h.elim
   ·exact h.elim
 | next it b=>
  simp only[evOp] at h⊢
  split at h
  ·rename_i hb;rw[if_pos hb];exact nextS_mono hn h
  ·rename_i hb;rw[if_neg hb];exact nextA_mono hn h
 | binOp bo t x y u=>
  simp only[evOp] at h⊢
  cases hy:isNilC y with
  | true=>rw[hy] at h;exact nilA_mono hn h
  | false=>rw[hy] at h;exact hplain h
 | _=>exact hplain h
theorem evOps_mono{all:List Oper}{Q Q':Fr→List AObj→Prop}(hq:∀fr σ,Q fr σ→Q' fr σ):∀{os:List Oper} {fr:Fr} {σ:List AObj},evOps E all os fr σ Q→evOps E all os fr σ Q'
 | [],fr,σ,h=>hq _ _ h
 | o::os,fr,σ,h=>by
  rw[evOps_cons] at h⊢
  have hn:∀v σ',evNext E all os o.dst fr Q v σ'→evNext E all os o.dst fr Q' v σ':=fun v σ' h=>by
   unfold evNext at h⊢
   split at h
   ·exact evOps_mono hq h
   ·exact⟨h.1,evOps_mono hq h.2⟩
  split at h
  ·exact h
  ·exact⟨fun hb=>evOp_mono hn (h.1 hb),fun hb=>hn _ _ (h.2 hb)⟩
theorem anew_FR{n N:Nat}{fr:Fr}{a:Act}(h:FR K n N fr a.tmps):FR K n N fr.anew a.tmps:=⟨h.1,fun t v hv=>h.2 t v (Fr.get_anew hv)⟩
theorem ARun.anew{todo:List Item}{fr:Fr}{σ:List AObj}{Q:Post}(h:ARun E ro todo fr.anew σ Q):ARun E ro todo fr σ Q:=
 fun M hM K w V a b cs hb hR hO hF=>h M hM K w V a b cs hb hR hO (anew_FR hF)
section congrs
variable {n:Nat}{k:List Item}{fr:Fr}{σ:List AObj}{Q:Post}
@[congr] theorem ARun_congr{todo:List Item}{fr fr':Fr}{σ σ':List AObj}{Q:Post}(h1:fr=fr')(h2:σ=σ'):ARun E ro todo fr σ Q=ARun E ro todo fr' σ' Q:=by rw[h1,h2]
@[congr] theorem evOps_congr{all os:List Oper}{fr fr':Fr}{σ σ':List AObj}{Q:Fr→List AObj→Prop}(h1:fr=fr')(h2:σ=σ'):evOps E all os fr σ Q=evOps E all os fr' σ' Q:=by rw[h1,h2]
@[congr] theorem evNext_congr{all os:List Oper}{dst:Option Tmp}{fr fr':Fr}{Q:Fr→List AObj→Prop}{v v':AV}{σ σ':List AObj}(h1:fr=fr')(h2:v=v')(h3:σ=σ'):evNext E all os dst fr Q v σ=evNext E all os dst fr' Q v' σ':=by rw[h1,h2,h3]
@[congr] theorem ACalls_congr{P:Program}{S:MC P}{f:FuncId}{args args':List AV}{σ σ':List AObj}{Q:AV→List AObj→Prop}(h1:args=args')(h2:σ=σ'):ACalls S f args σ Q=ACalls S f args' σ' Q:=by rw[h1,h2]
@[congr] theorem AYield_congr{P:Program}{S:MC P}{f:FuncId}{args args':List AV}{σ σ':List AObj}{Q:AV→List AObj→Prop}(h1:args=args')(h2:σ=σ'):AYield S f args σ Q=AYield S f args' σ' Q:=by rw[h1,h2]
@[congr] theorem evOp_congr{fr:Fr}{σ σ':List AObj}{type:TypeId}{op:Op}{Q:AV→List AObj→Prop}(h2:σ=σ'):evOp E fr σ type op Q=evOp E fr σ' type op Q:=by rw[h2]
@[congr] theorem wantA_congr{ds:List Oper}{fr:Fr}{g:Option (Nat×Bool)}:wantA ds fr g=wantA ds fr g:=rfl
end congrs
section ops
variable {all os:List Oper}{fr:Fr}{σ:List AObj}{Q:Fr→List AObj→Prop}{type:TypeId}{X:AV→List AObj→Prop}
theorem evOps_nil:evOps E all [] fr σ Q=Q fr σ:=rfl
theorem evOps_plain{dst:Option Tmp}{op:Op}{pos:String}{after:Array Edge}:evOps E all (⟨dst,op,type,pos,after,none⟩::os) fr σ Q=evOp E fr σ type op (evNext E all os dst fr Q):=by
 rw[evOps_cons];simp[wantA]
def dstOf:List Oper→Nat→Option Tmp
 | [],_=>none
 | o::_,0=>o.dst
 | _::os,j+1=>dstOf os j
theorem dstOf_eq:∀(l:List Oper) (j:Nat),(l[j]?).bind (·.dst)=dstOf l j
 | [],_=>by simp[dstOf]
 | o::_,0=>by simp[dstOf]
 | _::os,j+1=>by simp[dstOf,dstOf_eq os j]
@[congr] theorem dstOf_congr{l:List Oper}{j:Nat}:dstOf l j=dstOf l j:=rfl
theorem dstOf_zero{o:Oper}{l:List Oper}:dstOf (o::l) 0=o.dst:=rfl
theorem dstOf_succ{o:Oper}{l:List Oper}{j:Nat}:dstOf (o::l) (j+1)=dstOf l j:=rfl
theorem evOps_guard{dst:Option Tmp}{op:Op}{pos:String}{after:Array Edge}{j:Nat}{want:Bool}:evOps E all (⟨dst,op,type,pos,after,some (j,want)⟩::os) fr σ Q =
  match dstOf all j with
  | none=>False
  | some d=>match fr.get d with
   | some (.bool b)=>(b=want→evOp E fr σ type op (evNext E all os dst fr Q))∧(b=!want→evNext E all os dst fr Q (.tup []) σ)
   | some (.tup [])=>evNext E all os dst fr Q (.tup []) σ
   | _=>False:=by
 rw[evOps_cons]
 simp only[wantA,dstOf_eq]
 cases dstOf all j with
 | none=>rfl
 | some d=>
  simp only
  cases h:fr.get d with
  | none=>rfl
  | some v=>
   cases v with
   | bool b=>cases b<;> cases want<;> simp
   | tup vs=>cases vs<;> simp
   | _=>rfl
theorem evNext_none{v:AV}:evNext E all os none fr Q v σ=evOps E all os fr σ Q:=rfl
theorem evNext_some{d:Tmp}{v:AV}:evNext E all os (some d) fr Q v σ=(d<E.N∧evOps E all os (fr.put d v) σ Q):=rfl
def giveA(X:AV→List AObj→Prop)(σ:List AObj):Option AV→Prop
 | some v=>X v σ
 | none=>False
def give2(X:AV→List AObj→Prop):Option (AV×List AObj)→Prop
 | some (v,σ)=>X v σ
 | none=>False
@[congr] theorem giveA_congr{σ σ':List AObj}{v v':Option AV}(h2:σ=σ')(h1:v=v'):giveA X σ v=giveA X σ' v':=by rw[h1,h2]
@[congr] theorem give2_congr{v v':Option (AV×List AObj)}(h1:v=v'):give2 X v=give2 X v':=by rw[h1]
theorem giveA_some{v:AV}:giveA X σ (some v)=X v σ:=rfl
theorem give2_some{v:AV}:give2 X (some (v,σ))=X v σ:=rfl
theorem evOp_of_pop{op:Op}(h1:∀K,evOp E fr σ type op K=match aop E fr σ type op with | some (v,σ')=>K v σ' | none=>False)(h2:litOp E.ty fr op=none)(h3:hop E.ty fr σ op=none):evOp E fr σ type op X=giveA X σ (pop E.ty fr type op):=by
 rw[h1]
 unfold aop
 cases pop E.ty fr type op with
 | some v=>rfl
 | none=>simp[h2,h3,giveA]
theorem evOp_move{x:Operand}:evOp E fr σ type (.move x) X=giveA X σ (pop E.ty fr type (.move x)):=evOp_of_pop (fun _=>rfl) rfl rfl
theorem evOp_assign{x:Operand}:evOp E fr σ type (.assign x) X=giveA X σ (pop E.ty fr type (.assign x)):=evOp_of_pop (fun _=>rfl) rfl rfl
theorem evOp_pick{c x y:Operand}:evOp E fr σ type (.pick c x y) X=giveA X σ (pop E.ty fr type (.pick c x y)):=evOp_of_pop (fun _=>rfl) rfl rfl
theorem evOp_build{t:TypeId}{p:Array (Nat×Operand)}:evOp E fr σ type (.build t p) X=giveA X σ (pop E.ty fr type (.build t p)):=evOp_of_pop (fun _=>rfl) rfl rfl
theorem evOp_fieldAddr{t:TypeId}{x:Operand}{f:Nat}:evOp E fr σ type (.fieldAddr t x f) X=giveA X σ (pop E.ty fr type (.fieldAddr t x f)):=evOp_of_pop (fun _=>rfl) rfl rfl
theorem evOp_index{t:TypeId}{x i:Operand}:evOp E fr σ type (.index t x i) X=giveA X σ (pop E.ty fr type (.index t x i)):=evOp_of_pop (fun _=>rfl) rfl rfl
theorem evOp_indexAddr{t:TypeId}{x i:Operand}:evOp E fr σ type (.indexAddr t x i) X=giveA X σ (pop E.ty fr type (.indexAddr t x i)):=evOp_of_pop (fun _=>rfl) rfl rfl
theorem evOp_nilCheck{x:Operand}:evOp E fr σ type (.nilCheck x) X=giveA X σ (pop E.ty fr type (.nilCheck x)):=evOp_of_pop (fun _=>rfl) rfl rfl
theorem evOp_binOp{op:BinOp}{t u:TypeId}{x y:Operand}(hy:isNilC y=false):evOp E fr σ type (.binOp op t x y u) X=giveA X σ (pop E.ty fr type (.binOp op t x y u)):=evOp_of_pop (fun _=>by
 show(match isNilC y with
  | true=>_
  | false=>_)=_
 rw[hy]<;> cases aop E fr σ type (.binOp op t x y u)<;> rfl) rfl rfl
def binS(A B:Prop):Bool→Prop
 | true=>A
 | false=>B
@[congr] theorem binS_congr{A B:Prop}{b b':Bool}(h:b=b'):binS A B b=binS A B b':=by rw[h]
theorem binS_true{A B:Prop}:binS A B true=A:=rfl
theorem binS_false{A B:Prop}:binS A B false=B:=rfl
theorem isNilC_tmp{t:Tmp}:isNilC (.tmp t)=false:=rfl
theorem isNilC_int{k:IntKind}{n:Int}:isNilC (.const (.int k n))=false:=rfl
theorem isNilC_bool{b:Bool}:isNilC (.const (.bool b))=false:=rfl
theorem isNilC_str{s:ByteArray}:isNilC (.const (.string s))=false:=rfl
theorem isNilC_nil:isNilC (.const (.slice none 0 0))=true:=rfl
theorem isNilC_iface:isNilC (.const .nilIface)=false:=rfl
theorem isNilC_ptr{a:Option Addr}:isNilC (.const (.pointer a))=false:=rfl
def giveB(X:AV→List AObj→Prop)(σ:List AObj):Option AV→Prop
 | some (.bool b)=>(b=true→X (.bool true) σ)∧(b=false→X (.bool false) σ)
 | some v=>X v σ
 | none=>False
theorem giveB_eq{v:Option AV}:giveB X σ v=giveA X σ v:=by
 cases v with
 | none=>rfl
 | some v=>
  cases v with
  | bool b=>cases b<;> simp[giveB,giveA]
  | _=>rfl
@[congr] theorem giveB_congr{σ σ':List AObj}{v v':Option AV}(h2:σ=σ')(h1:v=v'):giveB X σ v=giveB X σ' v':=by rw[h1,h2]
theorem giveB_int{k:IntKind}{i:Int}:giveB X σ (some (.int k i))=X (.int k i) σ:=rfl
theorem giveB_str{s:ByteArray}:giveB X σ (some (.str s))=X (.str s) σ:=rfl
theorem evOp_bin{op:BinOp}{t u:TypeId}{x y:Operand}:evOp E fr σ type (.binOp op t x y u) X=binS (nilA X σ op (E.ty t).kd (aeval fr x)) (giveB X σ (pop E.ty fr type (.binOp op t x y u))) (isNilC y):=by
 cases hy:isNilC y with
 | true=>simp only[evOp,hy,binS]
 | false=>rw[giveB_eq];exact evOp_binOp hy
theorem nilA_eql{e sz:Nat}{t:Tok}{xs:List AV}:nilA X σ .eql (.slice e) (some (.list t sz xs))=(X (.bool false) σ∧(xs=[]→X (.bool true) σ)):=rfl
theorem nilA_neq{e sz:Nat}{t:Tok}{xs:List AV}:nilA X σ .neq (.slice e) (some (.list t sz xs))=(X (.bool true) σ∧(xs=[]→X (.bool false) σ)):=rfl
theorem nilA_eqlV{e r l:Nat}:nilA X σ .eql (.slice e) (some (.vec r l))=(X (.bool false) σ∧(l=0→X (.bool true) σ)):=rfl
theorem nilA_neqV{e r l:Nat}:nilA X σ .neq (.slice e) (some (.vec r l))=(X (.bool true) σ∧(l=0→X (.bool false) σ)):=rfl
@[congr] theorem nilA_congr{bo:BinOp}{kd kd':TK}{v v':Option AV}(h1:kd=kd')(h2:v=v'):nilA X σ bo kd v=nilA X σ bo kd' v':=by rw[h1,h2]
theorem evOp_unOp{op:UnOp}{t:TypeId}{x:Operand}:evOp E fr σ type (.unOp op t x) X=giveA X σ (pop E.ty fr type (.unOp op t x)):=evOp_of_pop (fun _=>rfl) rfl rfl
def convS(X:AV→List AObj→Prop)(σ:List AObj):Option AV→Option (AV×List AObj)→Prop
 | some v,_=>X v σ
 | none,h=>give2 X h
@[congr] theorem convS_congr{σ σ':List AObj}{v v':Option AV}{h h':Option (AV×List AObj)}(h1:σ=σ')(h2:v=v')(h3:h=h'):convS X σ v h=convS X σ' v' h':=by rw[h1,h2,h3]
theorem convS_some{v:AV}{h:Option (AV×List AObj)}:convS X σ (some v) h=X v σ:=rfl
theorem convS_none{h:Option (AV×List AObj)}:convS X σ none h=give2 X h:=rfl
theorem evOp_convert{s t:TypeId}{x:Operand}:evOp E fr σ type (.convert s t x) X=convS X σ (pop E.ty fr type (.convert s t x)) (hop E.ty fr σ (.convert s t x)):=by
 show(match aop E fr σ type (.convert s t x) with | some (v,σ')=>X v σ' | none=>False)=_
 unfold aop
 cases pop E.ty fr type (.convert s t x) with
 | some v=>rfl
 | none=>
  show(match hop E.ty fr σ (.convert s t x) with | some (v,σ')=>X v σ' | none=>False)=_
  cases hop E.ty fr σ (.convert s t x) with
  | none=>rfl
  | some p=>rfl
theorem evOp_makeInterface{t:TypeId}{x:Operand}:evOp E fr σ type (.makeInterface t x) X=giveA X σ (pop E.ty fr type (.makeInterface t x)):=evOp_of_pop (fun _=>rfl) rfl rfl
theorem evOp_makeFunc{f:Fn}{x y:Array Operand}:evOp E fr σ type (.makeFunc f x y) X=giveA X σ (pop E.ty fr type (.makeFunc f x y)):=evOp_of_pop (fun _=>rfl) rfl rfl
theorem evOp_extract{x:Operand}{i:Nat}:evOp E fr σ type (.extract x i) X=giveA X σ (pop E.ty fr type (.extract x i)):=evOp_of_pop (fun _=>rfl) rfl rfl
theorem evOp_typeAssert{x:Operand}{s t:TypeId}{ok:Bool}:evOp E fr σ type (.typeAssert x s t ok) X=giveA X σ (pop E.ty fr type (.typeAssert x s t ok)):=evOp_of_pop (fun _=>rfl) rfl rfl
theorem evOp_len{args:Array Operand}{ats:Array TypeId}:evOp E fr σ type (.call ⟨.builtin .len,args,ats⟩) X=giveA X σ (pop E.ty fr type (.call ⟨.builtin .len,args,ats⟩)):=evOp_of_pop (fun _=>rfl) rfl rfl
def lenO(k:TK):Option AV→Option AV
 | some (.list _ _ xs)=>(match k with | .slice _=>some (.int .i64 xs.length) | _=>none)
 | some (.arr _ _ n)=>(match k with | .slice _=>some (.int .i64 n) | _=>none)
 | some (.vec _ n)=>(match k with | .slice _=>some (.int .i64 n) | _=>none)
 | some (.str s)=>(match k with | .str=>some (.int .i64 s.size) | _=>none)
 | _=>none
theorem evOp_len1{x:Operand}{t:TypeId}:evOp E fr σ type (.call ⟨.builtin .len,#[x],#[t]⟩) X=giveA X σ (lenO (E.ty t).kd (aeval fr x)):=by
 rw[evOp_len]
 simp only[pop,aevals,List.getElem?_toArray,List.getElem?_cons_zero]
 cases aeval fr x with
 | none=>rfl
 | some v=>
  simp only
  cases v<;> cases(E.ty t).kd<;> rfl
theorem evOp_max{args:Array Operand}{ats:Array TypeId}:evOp E fr σ type (.call ⟨.builtin .max,args,ats⟩) X=giveA X σ (pop E.ty fr type (.call ⟨.builtin .max,args,ats⟩)):=evOp_of_pop (fun _=>rfl) rfl rfl
theorem evOp_min{args:Array Operand}{ats:Array TypeId}:evOp E fr σ type (.call ⟨.builtin .min,args,ats⟩) X=giveA X σ (pop E.ty fr type (.call ⟨.builtin .min,args,ats⟩)):=evOp_of_pop (fun _=>rfl) rfl rfl
theorem evOp_buildSlice{t:TypeId}{n:Nat}{p:Array (Nat×Operand)}:evOp E fr σ type (.buildSlice t n p) X=giveA X σ (litOp E.ty fr (.buildSlice t n p)):=by
 show(match aop E fr σ type (.buildSlice t n p) with | some (v,σ')=>X v σ' | none=>False)=_
 have h:aop E fr σ type (.buildSlice t n p)=(litOp E.ty fr (.buildSlice t n p)).map fun v=>(v,σ):=by
  show(match litOp E.ty fr (.buildSlice t n p) with | some v=>some (v,σ) | none=>hop E.ty fr σ (.buildSlice t n p))=_
  cases litOp E.ty fr (.buildSlice t n p)<;> rfl
 rw[h]
 cases litOp E.ty fr (.buildSlice t n p)<;> rfl
theorem evOp_of_hop{op:Op}(h1:∀K,evOp E fr σ type op K=match aop E fr σ type op with | some (v,σ')=>K v σ' | none=>False)(h2:litOp E.ty fr op=none)(h3:pop E.ty fr type op=none):evOp E fr σ type op X=give2 X (hop E.ty fr σ op):=by
 rw[h1];unfold aop;simp only[h2,h3]
 cases hop E.ty fr σ op with
 | none=>rfl
 | some p=>rfl
theorem evOp_alloc{t:TypeId}:evOp E fr σ type (.alloc t) X=give2 X (hop E.ty fr σ (.alloc t)):=evOp_of_hop (fun _=>rfl) rfl rfl
theorem evOp_box{t:TypeId}{x:Operand}:evOp E fr σ type (.box t x) X=give2 X (hop E.ty fr σ (.box t x)):=evOp_of_hop (fun _=>rfl) rfl rfl
theorem evOp_makeSlice{t:TypeId}{x y:Operand}:evOp E fr σ type (.makeSlice t x y) X=give2 X (hop E.ty fr σ (.makeSlice t x y)):=evOp_of_hop (fun _=>rfl) rfl rfl
theorem evOp_load{t:TypeId}{x:Operand}:evOp E fr σ type (.load t x) X=give2 X (hop E.ty fr σ (.load t x)):=evOp_of_hop (fun _=>rfl) rfl rfl
theorem evOp_store{t:TypeId}{x y:Operand}:evOp E fr σ type (.store t x y) X=give2 X (hop E.ty fr σ (.store t x y)):=evOp_of_hop (fun _=>rfl) rfl rfl
theorem evOp_append{args:Array Operand}{ats:Array TypeId}:evOp E fr σ type (.call ⟨.builtin .append,args,ats⟩) X=give2 X (hop E.ty fr σ (.call ⟨.builtin .append,args,ats⟩)):=by
 refine evOp_of_hop (fun _=>rfl) rfl ?_
 simp only[pop]
theorem evOp_invoke{r:Operand}{m:String}{args:Array Operand}{ats:Array TypeId}:evOp E fr σ type (.call ⟨.invoke r m,args,ats⟩) X=match aeval fr r,aevals fr args.toList with
  | some (.iface t v),some as=>match E.mt t m with
   | some g=>callA E g (v::as) σ X
   | none=>False
  | _,_=>False:=rfl
theorem evOp_next{it:Operand}:evOp E fr σ type (.next it false) X=nextA X σ (aeval fr it):=by
 show(if false=true then nextS X σ (aeval fr it) else nextA X σ (aeval fr it))=_
 rw[if_neg (by simp)]
theorem nextS_ptr{r:Nat}:nextS X σ (some (.ptr r 0))=nextSR X σ r (hget σ r):=rfl
theorem nextSR_it{r:Nat}{s:ByteArray}{pos:Nat}:nextSR X σ r (some (.siter s pos))=nextSB X σ r s pos s[pos]? :=rfl
theorem nextSB_some{r:Nat}{s:ByteArray}{pos:Nat}{b:UInt8}:nextSB X σ r s pos (some b)=(b.toNat<128∧X (.tup [.bool true,.int .i64 pos,.int .i32 b.toNat]) (hset σ r (.siter s (pos+1)))):=rfl
theorem nextSB_none{r:Nat}{s:ByteArray}{pos:Nat}:nextSB X σ r s pos none=X (.tup [.bool false]) σ:=rfl
@[congr] theorem nextS_congr{σ σ':List AObj}{v v':Option AV}(h2:σ=σ')(h3:v=v'):nextS X σ v=nextS X σ' v':=by rw[h2,h3]
@[congr] theorem nextSR_congr{σ σ':List AObj}{r r':Nat}{v v':Option AObj}(h1:r=r')(h2:σ=σ')(h3:v=v'):nextSR X σ r v=nextSR X σ' r' v':=by rw[h1,h2,h3]
@[congr] theorem nextSB_congr{σ σ':List AObj}{r r':Nat}{s s':ByteArray}{pos pos':Nat}{v v':Option UInt8}(h1:r=r')(h2:σ=σ')(h4:s=s')(h5:pos=pos')(h3:v=v'):nextSB X σ r s pos v=nextSB X σ' r' s' pos' v':=by rw[h1,h2,h3,h4,h5]
theorem evOp_makeMap{t:TypeId}:evOp E fr σ type (.makeMap t none) X=give2 X (hop E.ty fr σ (.makeMap t none)):=evOp_of_hop (fun _=>rfl) rfl rfl
theorem evOp_lookup{t:TypeId}{m k:Operand}{ok:Bool}:evOp E fr σ type (.lookup t m k ok) X=give2 X (hop E.ty fr σ (.lookup t m k ok)):=evOp_of_hop (fun _=>rfl) rfl rfl
theorem evOp_mapUpdate{t:TypeId}{m k x:Operand}:evOp E fr σ type (.mapUpdate t m k x) X=give2 X (hop E.ty fr σ (.mapUpdate t m k x)):=evOp_of_hop (fun _=>rfl) rfl rfl
theorem evOp_range{t:TypeId}{m:Operand}:evOp E fr σ type (.range t m) X=give2 X (hop E.ty fr σ (.range t m)):=evOp_of_hop (fun _=>rfl) rfl rfl
theorem evOp_entry{it:Operand}:evOp E fr σ type (.entry it) X=give2 X (hop E.ty fr σ (.entry it)):=evOp_of_hop (fun _=>rfl) rfl rfl
def callO{P:Program}(S:MC P)(g:FuncId)(as:List AV)(σ:List AObj)(X:AV→List AObj→Prop):Option AV→Prop
 | some v=>X v σ
 | none=>ACalls S g as σ X
theorem callA_eq{g:FuncId}{as:List AV}:callA E g as σ X=callO E.S g as σ X (E.fs g as):=by unfold callA callO;cases E.fs g as<;> rfl
theorem callO_none{P:Program}{S:MC P}{g:FuncId}{as:List AV}:callO S g as σ X none=ACalls S g as σ X:=rfl
@[congr] theorem callA_congr{g:FuncId}{as as':List AV}{σ σ':List AObj}(h1:as=as')(h2:σ=σ'):callA E g as σ X=callA E g as' σ' X:=by rw[h1,h2]
@[congr] theorem callO_congr{P:Program}{S:MC P}{g:FuncId}{as as':List AV}{σ σ':List AObj}{v v':Option AV}(h1:as=as')(h2:σ=σ')(h3:v=v'):callO S g as σ X v=callO S g as' σ' X v':=by rw[h1,h2,h3]
@[congr] theorem nextA_congr{σ σ':List AObj}{v v':Option AV}(h2:σ=σ')(h3:v=v'):nextA X σ v=nextA X σ' v':=by rw[h2,h3]
end ops
theorem TyOK.of{P:Program}{t:Nat}{i:TI}(d:TypeDesc)(h1:(P.info? t).map (fun i=>(i.size,i.bytes))=some (i.sz,i.bytes))(h2:((P.info? t).bind (·.zero)).bind ofVal=some i.zero)(h3:i.zero.flat=true)
  (h4:P.underlying t=some d) (h5:KdOK d i.kd):TyOK P t i:=by
 refine⟨?_,d,h4,h5⟩
 cases hi:P.info? t with
 | none=>rw[hi] at h1;cases h1
 | some ti=>
  rw[hi] at h1 h2
  simp only[Option.map_some,Option.some.injEq,Prod.mk.injEq] at h1
  simp only[Option.bind_some] at h2
  cases hz:ti.zero with
  | none=>rw[hz] at h2;cases h2
  | some z=>rw[hz] at h2;exact⟨ti,rfl,h1.1,h1.2,⟨z,hz,h2⟩,h3⟩
def tyOf(l:List (Nat×TI))(t:Nat):TI:=(l.find? (fun p=>p.1==t)).elim {sz:=0,bytes:=0,kd:= .other,zero:= .tup []} (·.2)
theorem tys_of{P:Program}{l:List (Nat×TI)}(h:∀p∈l,TyOK P p.1 p.2):TysOK P (tyOf l):=by
 intro t ht
 unfold tyOf at ht⊢
 cases hf:l.find? (fun p=>p.1==t) with
 | none=>rw[hf] at ht;exact absurd rfl ht
 | some p=>
  have h1:=h p (List.mem_of_find?_eq_some hf)
  have h2:=List.find?_some hf
  simp at h2
  subst h2
  exact h1
end Go.Mu
