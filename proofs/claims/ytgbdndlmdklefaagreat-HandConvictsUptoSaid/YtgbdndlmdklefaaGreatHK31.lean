/- A statement in which an operation takes a map's length. -/
import Derived.Test.YtgbdndlmdklefaaGreatHK18
set_option linter.unusedSimpArgs false
set_option linter.unusedVariables false
namespace Go.Mu
open Go Go.Conc
variable {E:Env}{ro:Option Nat}{K:Kr}{n:Nat}
theorem EZ(hT:b9 E.P E.ty){σ:List aa}{w:World}(hR:R K σ w){t kt et r:Nat}{es:List (AV×AV)}(hk:(E.ty t).kd= .map kt et)(hg:ai σ r=some (.map es))(type:TypeId) :
  (Builtin.len_ #[t] type #[.map (some (K.φ r))]).run E.P w= .ok (.int .i64 es.length) w:=by
 obtain⟨d,hd,hu⟩:=aL hT (t:=t) (by rw[hk];simp)
 rw[hk] at hd
 simp only[bV] at hd
 subst hd
 obtain⟨es',clock,h1,h2⟩:=hR.obj r _ hg
 simp[Builtin.len_,hu w,e9 h1,goInt,h2.1]
def qw(E:Env)(fr:Fr)(σ:List aa)(op:Op)(X:AV→List aa→Prop):Prop:=match op with
 | .call ⟨.builtin .len,args,ats⟩=>match bI fr args.toList,ats.toList with
  | some [.map r],[t]=>match (E.ty t).kd,ai σ r with
   | .map _ _,some (.map es)=>X (.int .i64 es.length) σ
   | _,_=>False
  | _,_=>False
 | _=>False
def xu(E:Env)(ev:Fr→List aa→Prop)(dst:Option Tmp)(fr:Fr)(v:AV)(σ:List aa):Prop:=match dst with
 | none=>ev fr σ
 | some d=>d<E.N∧ev (fr.put d v) σ
def ed(E:Env)(all:List Oper):Nat→List Oper→Fr→List aa→(Fr→List aa→Prop)→Prop
 | _,[],fr,σ,Q=>Q fr σ
 | 0,o::os,fr,σ,Q=>match bK all fr o.guard with
  | none=>False
  | some b=>(b=true→qw E fr σ o.op (cz E all os o.dst fr Q))∧(b=false→cz E all os o.dst fr Q (.tup []) σ)
 | q+1,o::os,fr,σ,Q=>match bK all fr o.guard with
  | none=>False
  | some b=>(b=true→aP E fr σ o.type o.op (xu E (fun fr σ=>ed E all q os fr σ Q) o.dst fr))∧(b=false→xu E (fun fr σ=>ed E all q os fr σ Q) o.dst fr (.tup []) σ)
theorem qZ{X:Act→World→(Nat→Prop)→Prop}{ev:Fr→List aa→Prop}{dst:Option Tmp}{fr:Fr}{Sh V V':Nat→Prop}{σ σ':List aa}{w w':World}{K K':Kr}{a:Act}{v:AV}{c:Value}
  (ih:∀(K':Kr) (σ':List aa) (w':World) (V':Nat→Prop) (fr:Fr) (a':Act),ev fr σ'→R K' σ' w'→aU Sh V' K' σ' w'→FR K' σ'.length E.N fr a'.tmps→aI V K σ w V' K' σ' w'→a'.defers=a.defers→X a' w' V')
  (h:xu E ev dst fr v σ') (hR:R K' σ' w') (hO:aU Sh V' K' σ' w') (hF:FR K σ.length E.N fr a.tmps) (hS:aI V K σ w V' K' σ' w') (hv:VR K' σ'.length v c):X (a.put dst c) w' V':=by
 have hF':FR K' σ'.length E.N fr a.tmps:=hF.mono hS.ext hS.len
 cases dst with
 | none=>exact ih K' σ' w' V' fr a h hR hO hF' hS rfl
 | some d=>exact ih K' σ' w' V' (fr.put d v) _ h.2 hR hO (hF'.put h.1 hv) hS (put_defers _ _ _)
theorem Bc(hE:cm E){M:cw E.P}{fr:Fr}{σ:List aa}{w:World}{V:Nat→Prop}{a:Act}{ops:Array Oper}{i:Nat}{o:Oper}{X:AV→List aa→Prop}(ho:ops[i]? = some o)(hw:Region.wanted o (yielded ops a.tmps)=true)
  (h:qw E fr σ o.op X) (hR:R K σ w) (hO:aU M.Sh V K σ w) (hF:FR K σ.length E.N fr a.tmps) {KK:Act→World→(Nat→Prop)→Prop}
  (hk:∀K' σ' w' V' v c,X v σ'→R K' σ' w'→aU M.Sh V' K' σ' w'→VR K' σ'.length v c→aI V K σ w V' K' σ' w'→KK (a.put o.dst c) w' V'):e7 M ops i KK a w V:=by
 intro b rest k cs au hp
 obtain⟨dst,op,type,pos,after,guard⟩:=o
 simp only at h
 unfold qw at h
 split at h
 ·rename_i args ats
  split at h
  ·rename_i r t hargs hats
   split at h
   ·rename_i kt et es hkd hg
    have hv:=cg hF hargs
    have hl:args.toList.length=1:=by have:=hv.1;simp at this;simpa using this.symm
    obtain⟨x,hx⟩:=List.length_eq_one_iff.1 hl
    have hx':args= #[x]:=by apply Array.ext';simpa using hx
    subst hx'
    have ht':ats= #[t]:=by apply Array.ext';simpa using hats
    subst ht'
    simp at hv
    have hm:=hv.head.qD.2
    refine u7 (X:=fun c K' σ' w'=>σ'=σ∧c= .int .i64 es.length) hR hO ho hw (by intro c hc;cases hc) ?_ (fun w₁ hR1=>⟨_,K,σ,w₁,.inl (by simp[execOp,resolve,invoke,builtin,hm,EZ hE.ty hR1 hkd hg type]),hR1,.refl _ _ _,rfl,rfl⟩) (fun c K' σ'' w' V' g1 g2 g3 ⟨e,g4⟩=>?_)
    ·show Tm E.P (resolve a.eval ⟨.builtin .len,#[x],#[t]⟩ type >>= fun d=>invoke d.target d.args) Any
     refine ab ?_
     exact bL FY
    ·subst e;subst g4;exact hp _ _ _ (hk _ _ _ _ _ _ h g1 g2 (.int _ _) g3)
   ·exact h.elim
  ·exact h.elim
 ·exact h.elim
theorem pt(hE:cm E){M:cw E.P}(hM:E.S M){ops:Array Oper}{Q:Fr→List aa→Prop}{V0:Nat→Prop}{K0:Kr}{σ0:List aa}{w0:World}{ds:List Deferred}:∀(q:Nat) (l:List Nat) (os:List Oper),l.map (fun i=>ops[i]?)=os.map some→
  ∀(K:Kr) (σ:List aa) (w:World) (V:Nat→Prop) (fr:Fr) (a:Act),ed E ops.toList q os fr σ Q→R K σ w→aU M.Sh V K σ w→FR K σ.length E.N fr a.tmps→aI V0 K0 σ0 w0 V K σ w→a.defers=ds→
   cY M ops (mS E M.Sh V0 K0 σ0 w0 ds Q) l a w V
 | q,[],os,hl,K,σ,w,V,fr,a,h,hR,hO,hF,hS,hd=>by
  cases os with
  | cons=>simp at hl
  | nil=>cases q<;> exact⟨K,σ,fr,h,hR,hO,hF,hS,hd⟩
 | q,i::l,os,hl,K,σ,w,V,fr,a,h,hR,hO,hF,hS,hd=>by
  cases os with
  | nil=>simp at hl
  | cons o os=>
   simp only[List.map_cons,List.cons.injEq] at hl
   obtain⟨hi,hl⟩:=hl
   cases q with
   | zero=>
    have ih:∀(K':Kr) (σ':List aa) (w':World) (V':Nat→Prop) (fr:Fr) (a':Act),cX E ops.toList os fr σ' Q→R K' σ' w'→aU M.Sh V' K' σ' w'→FR K' σ'.length E.N fr a'.tmps→aI V K σ w V' K' σ' w'→a'.defers=a.defers→
      cY M ops (mS E M.Sh V0 K0 σ0 w0 ds Q) l a' w' V':=fun K' σ' w' V' fr a' h1 h2 h3 h4 h5 h6=>mP hE hM l os hl K' σ' w' V' fr a' h1 h2 h3 h4 (hS.trans h5) (h6.trans hd)
    simp only[ed] at h
    show e7 M ops i _ a w V
    split at h
    ·exact h.elim
    ·rename_i b hb
     have hw:=gk hF hb
     cases b with
     | false=>exact .unwanted hi hw fun w₁ hr=>kP ih (h.2 rfl) (hR.rely hO hr) (hO.rely hr) hF (.bN hr) fK
     | true=>exact Bc hE hi hw (h.1 rfl) hR hO hF fun K' σ' w' V' v c h1 h2 h3 h4 h5=>kP ih h1 h2 h3 hF h5 h4
   | succ q=>
    have ih:∀(K':Kr) (σ':List aa) (w':World) (V':Nat→Prop) (fr:Fr) (a':Act),ed E ops.toList q os fr σ' Q→R K' σ' w'→aU M.Sh V' K' σ' w'→FR K' σ'.length E.N fr a'.tmps→aI V K σ w V' K' σ' w'→a'.defers=a.defers→
      cY M ops (mS E M.Sh V0 K0 σ0 w0 ds Q) l a' w' V':=fun K' σ' w' V' fr a' h1 h2 h3 h4 h5 h6=>pt hE hM q l os hl K' σ' w' V' fr a' h1 h2 h3 h4 (hS.trans h5) (h6.trans hd)
    simp only[ed] at h
    show e7 M ops i _ a w V
    split at h
    ·exact h.elim
    ·rename_i b hb
     have hw:=gk hF hb
     cases b with
     | false=>exact .unwanted hi hw fun w₁ hr=>qZ ih (h.2 rfl) (hR.rely hO hr) (hO.rely hr) hF (.bN hr) fK
     | true=>exact kx hE hM hi hw (h.1 rfl) hR hO hF fun K' σ' w' V' v c h1 h2 h3 h4 h5=>qZ ih h1 h2 h3 hF h5 h4
theorem aj.BZ(hE:cm E)(q:Nat){id:Nat}{ops:Array Oper}{k:List Item}{fr:Fr}{σ:List aa}{Q:Option Code→Fr→List aa→Prop}
  (h:ed E ops.toList q ops.toList fr σ fun fr σ=>aj E ro k fr σ Q):aj E ro (.code (.region id ops false)::k) fr σ Q:=by
 intro M hM K w V a b cs hb hR hO hF
 have hl:(List.range ops.size).map (fun i=>ops[i]?)=ops.toList.map some:=by
  apply List.ext_getElem
  ·simp
  ·intro i h1 h2
   simp at h1 h2⊢
 refine M.step rfl fun w₁ hr=>⟨_,_,_,show stepG E.P M.main (G (b.atR a (.code (.region id ops false)::k)) cs) w₁= .go (G (b.atR a (.inRegion ops (List.range ops.size)::k)) cs) w₁ by simp[G,stepG,stepG.exec,Frame.atR],.idle _ _ _,?_⟩
 rw[bk]
 refine cY.run ?_ _ _ _ _ (pt hE hM q (List.range ops.size) ops.toList hl K σ w₁ V fr a h (hR.rely hO hr) (hO.rely hr) hF (.bN (V:=V) hr) rfl)
 rintro a' w' V' ⟨K',σ',fr',hq,h2,h3,h4,h5,h6⟩
 refine M.step rfl fun w₂ hr2=>⟨_,_,_,show stepG E.P M.main (G (b.atR a' (.inRegion ops []::k)) cs) w₂= .go (G (b.atR a' k) cs) w₂ by simp[G,stepG,stepG.exec,Frame.atR],.idle _ _ _,?_⟩
 rw[bk]
 exact aj.go (hq M hM) (hb.mono h5.ext h5.len) (h2.rely h3 hr2) (h3.rely hr2) h4 (h5.trans (.bN hr2)) h6
-- rules of the walk
def uI(E:Env)(all:List Oper)(q:Nat)(os:List Oper)(dst:Option Tmp)(fr:Fr)(Q:Fr→List aa→Prop)(v:AV)(σ:List aa):Prop:=xu E (fun fr σ=>ed E all q os fr σ Q) dst fr v σ
def tS(X:AV→List aa→Prop)(σ:List aa):Option aa→Prop
 | some (.map es)=>X (.int .i64 es.length) σ
 | _=>False
def tz(X:AV→List aa→Prop)(σ:List aa)(k:TK):Option AV→Prop
 | some (.map r)=>match k with
  | .map _ _=>tS X σ (ai σ r)
  | _=>False
 | _=>False
section
variable {all os:List Oper}{q:Nat}{dst:Option Tmp}{fr:Fr}{Q:Fr→List aa→Prop}{σ:List aa}{type:TypeId}{op:Op}{want:Bool}{X:AV→List aa→Prop}
theorem DZ{v:AV}:uI E all q os none fr Q v σ=ed E all q os fr σ Q:=rfl
theorem CZ{d:Tmp}{v:AV}:uI E all q os (some d) fr Q v σ=(d<E.N∧ed E all q os (fr.put d v) σ Q):=rfl
@[congr] theorem Su{v v':Option aa}(h:v=v'):tS X σ v=tS X σ v':=by rw[h]
@[congr] theorem Sz{k k':TK}{v v':Option AV}(h1:k=k')(h:v=v'):tz X σ k v=tz X σ k' v':=by rw[h,h1]
theorem Ft{es:List (AV×AV)}:tS X σ (some (.map es))=X (.int .i64 es.length) σ:=rfl
theorem Ia{kt et r:Nat}:tz X σ (.map kt et) (some (.map r))=tS X σ (ai σ r):=rfl
theorem zk{pos:String}{after:Array Edge}:ed E all (q+1) (⟨dst,op,type,pos,after,none⟩::os) fr σ Q=aP E fr σ type op (uI E all q os dst fr Q):=by
 have e:bK all fr none=some true:=rfl
 simp only[ed,e,true_implies,Bool.true_eq_false,false_implies,and_true,forall_const]
 rfl
@[congr] theorem SM{fr':Fr}{v v':AV}{σ':List aa}(h1:fr=fr')(h2:v=v')(h3:σ=σ'):uI E all q os dst fr Q v σ=uI E all q os dst fr' Q v' σ':=by rw[h1,h2,h3]
@[congr] theorem Q3{fr':Fr}{σ':List aa}(h1:fr=fr')(h3:σ=σ'):ed E all q os fr σ Q=ed E all q os fr' σ' Q:=by rw[h1,h3]
theorem IH{x:Operand}{t:TypeId}:qw E fr σ (.call ⟨.builtin .len,#[x],#[t]⟩) X=tz X σ (E.ty t).kd (aH fr x):=by
 simp only[qw,bI]
 cases aH fr x with
 | none=>rfl
 | some v=>
  simp only
  cases v with
  | map r=>
   simp only[tz]
   cases(E.ty t).kd<;> try rfl
   cases ai σ r with
   | none=>rfl
   | some o=>cases o<;> rfl
  | _=>rfl
end
theorem aj.zq{E:Env}{ro:Option Nat}{c:Code}{k:List Item}{kp:Nat→Bool}{tm sl:List (Nat×AV)}{σ:List aa}{Q:au}(n:Nat)(J:Nat→List aa→Prop)(lv:Nat→List (Nat×AV))
  (h0:aw (upd sl (lv 0)) sl) (hJ:J 0 σ)
  (hs:∀i τ,i<n→J i τ→(∀τ',J (i+1) τ'→aj E ro (.inLoop c::k) ⟨kp,[],upd sl (lv (i+1))⟩ τ' Q)→aj E ro (.code c:: .inLoop c::k) ⟨kp,[],upd sl (lv i)⟩ τ Q)
  (he:∀τ,J n τ→aj E ro (.code c:: .inLoop c::k) ⟨kp,[],upd sl (lv n)⟩ τ Q):aj E ro (.code (.loop c)::k) ⟨kp,tm,sl⟩ σ Q:=by
 have key:∀m i τ,n-i=m→i≤n→J i τ→aj E ro (.code c:: .inLoop c::k) ⟨kp,[],upd sl (lv i)⟩ τ Q:=by
  intro m
  induction m with
  | zero=>
   intro i τ hm hi hj
   obtain rfl:i=n:=by omega
   exact he τ hj
  | succ m ih=>
   intro i τ hm hi hj
   exact hs i τ (by omega) hj fun τ' hj'=> .inLoop (ih (i+1) τ' (by omega) (by omega) hj')
 exact .loop (aj.sub (key _ 0 σ rfl (Nat.zero_le _) hJ) h0)
end Go.Mu
