/- A statement in which an operation takes a map's length. -/
import Derived.Test.YtgbdndlmdklefaaGreatFK17
set_option linter.unusedSimpArgs false
set_option linter.unusedVariables false
namespace Go.Mu
open Go Go.Conc
variable {E:Env}{ro:Option Nat}{K:Kr}{n:Nat}
theorem mlen_sound(hT:TysOK E.P E.ty){σ:List AObj}{w:World}(hR:R K σ w){t kt et r:Nat}{es:List (AV×AV)}(hk:(E.ty t).kd= .map kt et)(hg:hget σ r=some (.map es))(type:TypeId) :
  (Builtin.len_ #[t] type #[.map (some (K.φ r))]).run E.P w= .ok (.int .i64 es.length) w:=by
 obtain⟨d,hd,hu⟩:=run_under hT (t:=t) (by rw[hk];simp)
 rw[hk] at hd
 simp only[KdOK] at hd
 subst hd
 obtain⟨es',clock,h1,h2⟩:=hR.obj r _ hg
 simp[Builtin.len_,hu w,run_getMap h1,goInt,h2.1]
def mlenA(E:Env)(fr:Fr)(σ:List AObj)(op:Op)(X:AV→List AObj→Prop):Prop:=match op with
 | .call ⟨.builtin .len,args,ats⟩=>match aevals fr args.toList,ats.toList with
  | some [.map r],[t]=>match (E.ty t).kd,hget σ r with
   | .map _ _,some (.map es)=>X (.int .i64 es.length) σ
   | _,_=>False
  | _,_=>False
 | _=>False
def nextM(E:Env)(ev:Fr→List AObj→Prop)(dst:Option Tmp)(fr:Fr)(v:AV)(σ:List AObj):Prop:=match dst with
 | none=>ev fr σ
 | some d=>d<E.N∧ev (fr.put d v) σ
def evOpsM(E:Env)(all:List Oper):Nat→List Oper→Fr→List AObj→(Fr→List AObj→Prop)→Prop
 | _,[],fr,σ,Q=>Q fr σ
 | 0,o::os,fr,σ,Q=>match wantA all fr o.guard with
  | none=>False
  | some b=>(b=true→mlenA E fr σ o.op (evNext E all os o.dst fr Q))∧(b=false→evNext E all os o.dst fr Q (.tup []) σ)
 | q+1,o::os,fr,σ,Q=>match wantA all fr o.guard with
  | none=>False
  | some b=>(b=true→evOp E fr σ o.type o.op (nextM E (fun fr σ=>evOpsM E all q os fr σ Q) o.dst fr))∧(b=false→nextM E (fun fr σ=>evOpsM E all q os fr σ Q) o.dst fr (.tup []) σ)
theorem nextM_sound{X:Act→World→(Nat→Prop)→Prop}{ev:Fr→List AObj→Prop}{dst:Option Tmp}{fr:Fr}{Sh V V':Nat→Prop}{σ σ':List AObj}{w w':World}{K K':Kr}{a:Act}{v:AV}{c:Value}
  (ih:∀(K':Kr) (σ':List AObj) (w':World) (V':Nat→Prop) (fr:Fr) (a':Act),ev fr σ'→R K' σ' w'→OwnV Sh V' K' σ' w'→FR K' σ'.length E.N fr a'.tmps→StepV V K σ w V' K' σ' w'→a'.defers=a.defers→X a' w' V')
  (h:nextM E ev dst fr v σ') (hR:R K' σ' w') (hO:OwnV Sh V' K' σ' w') (hF:FR K σ.length E.N fr a.tmps) (hS:StepV V K σ w V' K' σ' w') (hv:VR K' σ'.length v c):X (a.put dst c) w' V':=by
 have hF':FR K' σ'.length E.N fr a.tmps:=hF.mono hS.ext hS.len
 cases dst with
 | none=>exact ih K' σ' w' V' fr a h hR hO hF' hS rfl
 | some d=>exact ih K' σ' w' V' (fr.put d v) _ h.2 hR hO (hF'.put h.1 hv) hS (put_defers _ _ _)
theorem mlenM_sound(hE:EnvOK E){M:RMode E.P}{fr:Fr}{σ:List AObj}{w:World}{V:Nat→Prop}{a:Act}{ops:Array Oper}{i:Nat}{o:Oper}{X:AV→List AObj→Prop}(ho:ops[i]? = some o)(hw:Region.wanted o (yielded ops a.tmps)=true)
  (h:mlenA E fr σ o.op X) (hR:R K σ w) (hO:OwnV M.Sh V K σ w) (hF:FR K σ.length E.N fr a.tmps) {KK:Act→World→(Nat→Prop)→Prop}
  (hk:∀K' σ' w' V' v c,X v σ'→R K' σ' w'→OwnV M.Sh V' K' σ' w'→VR K' σ'.length v c→StepV V K σ w V' K' σ' w'→KK (a.put o.dst c) w' V'):wpOpM M ops i KK a w V:=by
 intro b rest k cs Post hp
 obtain⟨dst,op,type,pos,after,guard⟩:=o
 simp only at h
 unfold mlenA at h
 split at h
 ·rename_i args ats
  split at h
  ·rename_i r t hargs hats
   split at h
   ·rename_i kt et es hkd hg
    have hv:=aevals_sound hF hargs
    have hl:args.toList.length=1:=by have:=hv.1;simp at this;simpa using this.symm
    obtain⟨x,hx⟩:=List.length_eq_one_iff.1 hl
    have hx':args= #[x]:=by apply Array.ext';simpa using hx
    subst hx'
    have ht':ats= #[t]:=by apply Array.ext';simpa using hats
    subst ht'
    simp at hv
    have hm:=hv.head.map_inv.2
    refine J_op (X:=fun c K' σ' w'=>σ'=σ∧c= .int .i64 es.length) hR hO ho hw (by intro c hc;cases hc) ?_ (fun w₁ hR1=>⟨_,K,σ,w₁,.inl (by simp[execOp,resolve,invoke,builtin,hm,mlen_sound hE.ty hR1 hkd hg type]),hR1,.refl _ _ _,rfl,rfl⟩) (fun c K' σ'' w' V' g1 g2 g3 ⟨e,g4⟩=>?_)
    ·show Tm E.P (resolve a.eval ⟨.builtin .len,#[x],#[t]⟩ type >>= fun d=>invoke d.target d.args) Any
     refine Tm_bind ?_
     exact Tm_val Tm_len
    ·subst e;subst g4;exact hp _ _ _ (hk _ _ _ _ _ _ h g1 g2 (.int _ _) g3)
   ·exact h.elim
  ·exact h.elim
 ·exact h.elim
theorem evOpsM_sound(hE:EnvOK E){M:RMode E.P}(hM:E.S M){ops:Array Oper}{Q:Fr→List AObj→Prop}{V0:Nat→Prop}{K0:Kr}{σ0:List AObj}{w0:World}{ds:List Deferred}:∀(q:Nat) (l:List Nat) (os:List Oper),l.map (fun i=>ops[i]?)=os.map some→
  ∀(K:Kr) (σ:List AObj) (w:World) (V:Nat→Prop) (fr:Fr) (a:Act),evOpsM E ops.toList q os fr σ Q→R K σ w→OwnV M.Sh V K σ w→FR K σ.length E.N fr a.tmps→StepV V0 K0 σ0 w0 V K σ w→a.defers=ds→
   wpOpsM M ops (Done E M.Sh V0 K0 σ0 w0 ds Q) l a w V
 | q,[],os,hl,K,σ,w,V,fr,a,h,hR,hO,hF,hS,hd=>by
  cases os with
  | cons=>simp at hl
  | nil=>cases q<;> exact⟨K,σ,fr,h,hR,hO,hF,hS,hd⟩
 | q,i::l,os,hl,K,σ,w,V,fr,a,h,hR,hO,hF,hS,hd=>by
  cases os with
  | nil=>simp at hl
  | cons o os=>
   simp only[List.map_cons,List.cons.injEq] at hl
   obtain⟨hi,hl⟩:=hl
   cases q with
   | zero=>
    have ih:∀(K':Kr) (σ':List AObj) (w':World) (V':Nat→Prop) (fr:Fr) (a':Act),evOps E ops.toList os fr σ' Q→R K' σ' w'→OwnV M.Sh V' K' σ' w'→FR K' σ'.length E.N fr a'.tmps→StepV V K σ w V' K' σ' w'→a'.defers=a.defers→
      wpOpsM M ops (Done E M.Sh V0 K0 σ0 w0 ds Q) l a' w' V':=fun K' σ' w' V' fr a' h1 h2 h3 h4 h5 h6=>evOps_sound hE hM l os hl K' σ' w' V' fr a' h1 h2 h3 h4 (hS.trans h5) (h6.trans hd)
    simp only[evOpsM] at h
    show wpOpM M ops i _ a w V
    split at h
    ·exact h.elim
    ·rename_i b hb
     have hw:=wantA_sound hF hb
     cases b with
     | false=>exact .unwanted hi hw fun w₁ hr=>next_sound ih (h.2 rfl) (hR.rely hO hr) (hO.rely hr) hF (.of_rel hr) undef_VR
     | true=>exact mlenM_sound hE hi hw (h.1 rfl) hR hO hF fun K' σ' w' V' v c h1 h2 h3 h4 h5=>next_sound ih h1 h2 h3 hF h5 h4
   | succ q=>
    have ih:∀(K':Kr) (σ':List AObj) (w':World) (V':Nat→Prop) (fr:Fr) (a':Act),evOpsM E ops.toList q os fr σ' Q→R K' σ' w'→OwnV M.Sh V' K' σ' w'→FR K' σ'.length E.N fr a'.tmps→StepV V K σ w V' K' σ' w'→a'.defers=a.defers→
      wpOpsM M ops (Done E M.Sh V0 K0 σ0 w0 ds Q) l a' w' V':=fun K' σ' w' V' fr a' h1 h2 h3 h4 h5 h6=>evOpsM_sound hE hM q l os hl K' σ' w' V' fr a' h1 h2 h3 h4 (hS.trans h5) (h6.trans hd)
    simp only[evOpsM] at h
    show wpOpM M ops i _ a w V
    split at h
    ·exact h.elim
    ·rename_i b hb
     have hw:=wantA_sound hF hb
     cases b with
     | false=>exact .unwanted hi hw fun w₁ hr=>nextM_sound ih (h.2 rfl) (hR.rely hO hr) (hO.rely hr) hF (.of_rel hr) undef_VR
     | true=>exact opM_sound hE hM hi hw (h.1 rfl) hR hO hF fun K' σ' w' V' v c h1 h2 h3 h4 h5=>nextM_sound ih h1 h2 h3 hF h5 h4
theorem ARun.regionM(hE:EnvOK E)(q:Nat){id:Nat}{ops:Array Oper}{k:List Item}{fr:Fr}{σ:List AObj}{Q:Option Code→Fr→List AObj→Prop}
  (h:evOpsM E ops.toList q ops.toList fr σ fun fr σ=>ARun E ro k fr σ Q):ARun E ro (.code (.region id ops false)::k) fr σ Q:=by
 intro M hM K w V a b cs hb hR hO hF
 have hl:(List.range ops.size).map (fun i=>ops[i]?)=ops.toList.map some:=by
  apply List.ext_getElem
  ·simp
  ·intro i h1 h2
   simp at h1 h2⊢
 refine M.step rfl fun w₁ hr=>⟨_,_,_,show stepG E.P M.main (G (b.atR a (.code (.region id ops false)::k)) cs) w₁= .go (G (b.atR a (.inRegion ops (List.range ops.size)::k)) cs) w₁ by simp[G,stepG,stepG.exec,Frame.atR],.idle _ _ _,?_⟩
 rw[newer_same]
 refine wpOpsM.run ?_ _ _ _ _ (evOpsM_sound hE hM q (List.range ops.size) ops.toList hl K σ w₁ V fr a h (hR.rely hO hr) (hO.rely hr) hF (.of_rel (V:=V) hr) rfl)
 rintro a' w' V' ⟨K',σ',fr',hq,h2,h3,h4,h5,h6⟩
 refine M.step rfl fun w₂ hr2=>⟨_,_,_,show stepG E.P M.main (G (b.atR a' (.inRegion ops []::k)) cs) w₂= .go (G (b.atR a' k) cs) w₂ by simp[G,stepG,stepG.exec,Frame.atR],.idle _ _ _,?_⟩
 rw[newer_same]
 exact ARun.go (hq M hM) (hb.mono h5.ext h5.len) (h2.rely h3 hr2) (h3.rely hr2) h4 (h5.trans (.of_rel hr2)) h6
-- rules of the walk
def nextN(E:Env)(all:List Oper)(q:Nat)(os:List Oper)(dst:Option Tmp)(fr:Fr)(Q:Fr→List AObj→Prop)(v:AV)(σ:List AObj):Prop:=nextM E (fun fr σ=>evOpsM E all q os fr σ Q) dst fr v σ
def mlenH(X:AV→List AObj→Prop)(σ:List AObj):Option AObj→Prop
 | some (.map es)=>X (.int .i64 es.length) σ
 | _=>False
def mlenO(X:AV→List AObj→Prop)(σ:List AObj)(k:TK):Option AV→Prop
 | some (.map r)=>match k with
  | .map _ _=>mlenH X σ (hget σ r)
  | _=>False
 | _=>False
section
variable {all os:List Oper}{q:Nat}{dst:Option Tmp}{fr:Fr}{Q:Fr→List AObj→Prop}{σ:List AObj}{type:TypeId}{op:Op}{want:Bool}{X:AV→List AObj→Prop}
theorem nextN_none{v:AV}:nextN E all q os none fr Q v σ=evOpsM E all q os fr σ Q:=rfl
theorem nextN_some{d:Tmp}{v:AV}:nextN E all q os (some d) fr Q v σ=(d<E.N∧evOpsM E all q os (fr.put d v) σ Q):=rfl
@[congr] theorem mlenH_congr{v v':Option AObj}(h:v=v'):mlenH X σ v=mlenH X σ v':=by rw[h]
@[congr] theorem mlenO_congr{k k':TK}{v v':Option AV}(h1:k=k')(h:v=v'):mlenO X σ k v=mlenO X σ k' v':=by rw[h,h1]
theorem mlenH_map{es:List (AV×AV)}:mlenH X σ (some (.map es))=X (.int .i64 es.length) σ:=rfl
theorem mlenO_map{kt et r:Nat}:mlenO X σ (.map kt et) (some (.map r))=mlenH X σ (hget σ r):=rfl
theorem evOpsM_plain{pos:String}{after:Array Edge}:evOpsM E all (q+1) (⟨dst,op,type,pos,after,none⟩::os) fr σ Q=evOp E fr σ type op (nextN E all q os dst fr Q):=by
 have e:wantA all fr none=some true:=rfl
 simp only[evOpsM,e,true_implies,Bool.true_eq_false,false_implies,and_true,forall_const]
 rfl
@[congr] theorem nextN_congr{fr':Fr}{v v':AV}{σ':List AObj}(h1:fr=fr')(h2:v=v')(h3:σ=σ'):nextN E all q os dst fr Q v σ=nextN E all q os dst fr' Q v' σ':=by rw[h1,h2,h3]
@[congr] theorem evOpsM_congr{fr':Fr}{σ':List AObj}(h1:fr=fr')(h3:σ=σ'):evOpsM E all q os fr σ Q=evOpsM E all q os fr' σ' Q:=by rw[h1,h3]
theorem mlenA_len{x:Operand}{t:TypeId}:mlenA E fr σ (.call ⟨.builtin .len,#[x],#[t]⟩) X=mlenO X σ (E.ty t).kd (aeval fr x):=by
 simp only[mlenA,aevals]
 cases aeval fr x with
 | none=>rfl
 | some v=>
  simp only
  cases v with
  | map r=>
   simp only[mlenO]
   cases(E.ty t).kd<;> try rfl
   cases hget σ r with
   | none=>rfl
   | some o=>cases o<;> rfl
  | _=>rfl
end
theorem ARun.countA{E:Env}{ro:Option Nat}{c:Code}{k:List Item}{kp:Nat→Bool}{tm sl:List (Nat×AV)}{σ:List AObj}{Q:Post}(n:Nat)(J:Nat→List AObj→Prop)(lv:Nat→List (Nat×AV))
  (h0:subF (upd sl (lv 0)) sl) (hJ:J 0 σ)
  (hs:∀i τ,i<n→J i τ→(∀τ',J (i+1) τ'→ARun E ro (.inLoop c::k) ⟨kp,[],upd sl (lv (i+1))⟩ τ' Q)→ARun E ro (.code c:: .inLoop c::k) ⟨kp,[],upd sl (lv i)⟩ τ Q)
  (he:∀τ,J n τ→ARun E ro (.code c:: .inLoop c::k) ⟨kp,[],upd sl (lv n)⟩ τ Q):ARun E ro (.code (.loop c)::k) ⟨kp,tm,sl⟩ σ Q:=by
 have key:∀m i τ,n-i=m→i≤n→J i τ→ARun E ro (.code c:: .inLoop c::k) ⟨kp,[],upd sl (lv i)⟩ τ Q:=by
  intro m
  induction m with
  | zero=>
   intro i τ hm hi hj
   obtain rfl:i=n:=by omega
   exact he τ hj
  | succ m ih=>
   intro i τ hm hi hj
   exact hs i τ (by omega) hj fun τ' hj'=> .inLoop (ih (i+1) τ' (by omega) (by omega) hj')
 exact .loop (ARun.sub (key _ 0 σ rfl (Nat.zero_le _) hJ) h0)
end Go.Mu
