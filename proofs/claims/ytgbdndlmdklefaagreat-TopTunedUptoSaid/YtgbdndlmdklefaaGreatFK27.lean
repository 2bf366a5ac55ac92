/- Texts of a proof: lemmas. -/
import Derived.Test.YtgbdndlmdklefaaGreatFK26
import Derived.Test.YtgbdndlmdklefaaGreatFK22
set_option linter.unusedSimpArgs false
set_option linter.unusedVariables false
set_option maxRecDepth 100000
set_option maxHeartbeats 40000000
namespace Go.Proofs
open Go Go.Mu
variable {S:MC Tryz.prog}
structure Work(r:Ros)(ds:List (List Int)):Prop extends r.Head where
 dev:∀l∈ds,(∀y∈l, -2000000≤y∧y≤2000000)∧l.length≤1000000
 len:ds.length=r.ents.length
 day:∀t∈r.ents,0≤t.day∧t.day≤60
theorem Ros.Good.work{r:Ros}(h:r.Good):Work r (entsL r):=⟨h.toHead,h.devs,entsL_len r,fun t ht=>(h.ent t ht).1⟩
theorem range_all{f:Nat→Bool}{i:Nat}:(List.range (i+1)).all f=((List.range i).all f&&f i):=by rw[List.range_succ,List.all_append];simp
theorem range_any{f:Nat→Bool}{i:Nat}:(List.range (i+1)).any f=((List.range i).any f||f i):=by rw[List.range_succ,List.any_append];simp
theorem is_p(r:Ros)(ds:List (List Int))(hr:Work r ds)(x:List Int)(hx:OkX r x):PureV S 151 [r.wav ds,rtv x] (.bool (isB r ds x)):=by
 refine PvE (Tryz.envOK (S:=S) 27 (fun _=>([],[])) fs403 fs403_ok) (.bool) Tryz.kp151 Tryz.func151 rfl ?_
 intro σ
 have hav:r.wav ds= .agg (r.wcells ds):=rfl
 have hh:=hr.hands
 have hel:=hr.entl
 have hH:(r.hands.toNat:Int)=r.hands:=by omega
 have hx4:(4≤x.length)=True:=by rw[hx.len];simp
 have htk:List.take 4 (x.map (AV.int .i64))=x.map (AV.int .i64):=List.take_of_length_le (by rw[List.length_map,hx.len];omega)
 simp only[hav,rtv]
 simp -implicitDefEqProofs (maxSteps:=9^9) (disch:=omega) only[go_sem,simprocAttr,Ros.wcells,hx4,htk]
 refine ARun.forS (Tryz.envOK (S:=S) 27 (fun _=>([],[])) fs403 fs403_ok) r.ents.length (fun i=>((List.range i).all fun i=>(List.range r.hands.toNat).any fun h=>byB r ds x i h)=true) (fun i=>[(11,.int .i64 i)]) (fun _ j=>σ++(.cells (r.wcells ds):: .cells (x.map (.int .i64))::j)) [] (by kernel_rfl) (by simp[Ros.wcells]) (by simp[upd,ins,subF,lookA]) (by simp) ?_ ?_
 ·intro i j hi hp ih
  rw[range_all,hp,Bool.true_and] at ih
  simp -implicitDefEqProofs (maxSteps:=9^9) (disch:=omega) only[go_sem,simprocAttr,Ros.wcells,hx4,htk]
  refine ARun.forS (Tryz.envOK (S:=S) 27 (fun _=>([],[])) fs403 fs403_ok) r.hands.toNat (fun h=>((List.range h).any fun h=>byB r ds x i h)=false) (fun h=>[(17,.int .i64 h)]) (fun _ _=>σ++(.cells (r.wcells ds):: .cells (x.map (.int .i64))::j)) [] (by kernel_rfl) (by simp[Ros.wcells]) (by simp[upd,ins,subF,lookA,hH]) (by simp) ?_ ?_
  ·intro h j2 hh2 hp2 ih2
   have hh4:(h:Int)<4:=by omega
   simp -implicitDefEqProofs (maxSteps:=9^9) (disch:=omega) only[go_sem,simprocAttr,Ros.wcells,hx4,htk]
   refine by_p r hr.toHead ds hr.dev hr.len hr.day x hx i hi h ⟨by omega,hh4⟩ _ _ ?_
   cases hb:byB r ds x i h
   ·simp -implicitDefEqProofs (maxSteps:=9^9) (disch:=omega) only[go_sem,simprocAttr,Ros.wcells,hx4,htk]
    refine(ih2 (by rw[range_any,hp2,hb];rfl) []).castS rfl (by simp[upd,ins,subF,lookA])
   ·simp -implicitDefEqProofs (maxSteps:=9^9) (disch:=omega) only[go_sem,simprocAttr,Ros.wcells,hx4,htk]
    have:((List.range r.hands.toNat).any fun h=>byB r ds x i h)=true:=List.any_eq_true.2 ⟨h,List.mem_range.2 hh2,hb⟩
    refine(ih this j).castS rfl (by simp[upd,ins,subF,lookA])
  ·intro j2 hp2
   simp -implicitDefEqProofs (maxSteps:=9^9) (disch:=omega) only[go_sem,simprocAttr,Ros.wcells,hx4,htk]
   have:isB r ds x=false:=by
    unfold isB
    rw[List.all_eq_false]
    exact⟨i,List.mem_range.2 hi,by rw[hp2];simp⟩
   rw[this]
 ·intro j hp
  simp -implicitDefEqProofs (maxSteps:=9^9) (disch:=omega) only[go_sem,simprocAttr,Ros.wcells,hx4,htk]
  have:isB r ds x=true:=hp
  rw[this]
def withS(r:Rd)(c:Int):Rd:=⟨r.kind,r.a,r.b,r.sec,⟨c,c⟩⟩
def cLo(n sl:Int):Int:=mx 0 (n/100-sl-1)
def cHi(n sl:Int):Int:=mn 25000 (n/100+sl+2)
def outAt(r:Rd)(sl:Int)(t:List Int)(i:Nat):List Int:=((List.range i).map fun k:Nat=>cLo (tg t r.a*r.sec) sl+k).filter fun c=>isR (withS r c) sl t
def showsL(r:Rd)(sl:Int)(t:List Int):List Int:=
 if r.kind=1 then outAt r sl t (cHi (tg t r.a*r.sec) sl-cLo (tg t r.a*r.sec) sl+1).toNat
 else if r.kind=2 then[dist (tg t r.a) (tg t r.b)*r.sec/100] else[if isR r sl t then 1 else 0]
theorem outAt_succ{r:Rd}{sl:Int}{t:List Int}{i:Nat}:outAt r sl t (i+1)=outAt r sl t i++(if isR (withS r (cLo (tg t r.a*r.sec) sl+i)) sl t then[cLo (tg t r.a*r.sec) sl+i] else[]):=by
 simp only[outAt,List.range_succ,List.map_append,List.filter_append,List.map_cons,List.map_nil,List.filter_cons,List.filter_nil]
theorem outAt_len{r:Rd}{sl:Int}{t:List Int}{i:Nat}:(outAt r sl t i).length≤i:=by
 unfold outAt
 exact Nat.le_trans (List.length_filter_le _ _) (by simp)
theorem shows1_p(a b s x y sl:Int)(t:List Int)(hr:okR ⟨1,a,b,s,⟨x,y⟩⟩)(hsl:0≤sl∧sl≤3)(ht:t.length=3)(hs:small t):PureV S 208 [rdv ⟨1,a,b,s,⟨x,y⟩⟩ sl,tav t] (tIs.av (showsL ⟨1,a,b,s,⟨x,y⟩⟩ sl t)):=by
 refine PvE (Tryz.envOK (S:=S) 76 Tryz.ord208 fs5 fs5_ok) (Plain.ints) Tryz.kp208 Tryz.func208 rfl ?_
 intro σ
 simp only[rdv,tav,if_true]
 obtain⟨ha,hb,hsec,hx,hy⟩:=hr.2
 simp only at ha hb hsec hx hy
 have hn:=mul_le (small_tg hs a) hsec
 obtain⟨q,hq⟩:∃q,(tg t a*s).tdiv 100=q:=⟨_,rfl⟩
 have hq2:q=tg t a*s/100:=by rw[← hq];exact Int.tdiv_eq_ediv_of_nonneg hn.1
 obtain⟨lo,hlo⟩:∃lo,(if 0<q-sl-1 then q-sl-1 else 0)=lo:=⟨_,rfl⟩
 obtain⟨hi,hhi⟩:∃hi,(if q+sl+2<25000 then q+sl+2 else 25000)=hi:=⟨_,rfl⟩
 have elo:cLo (tg t a*s) sl=lo:=by rw[← hlo,hq2];rfl
 have ehi:cHi (tg t a*s) sl=hi:=by rw[← hhi,hq2];rfl
 have blo:0≤lo∧lo≤300000:=by rw[← hlo];split<;> omega
 have bhi:0≤hi∧hi≤25000:=by rw[← hhi];split<;> omega
 simp -implicitDefEqProofs (maxSteps:=9^9) (disch:=omega) only[go_sem,simprocAttr,hq,hlo,tC_dec]
 refine ARun.ghost 7 1 (sz0:=0) rfl (by simp[lookA]) ?_
 simp only[ins,↓reduceIte,List.append_assoc,List.cons_append,List.nil_append,List.length_append,List.length_cons,List.length_nil,Nat.zero_add,Nat.reduceEqDiff,Nat.reduceAdd]
 refine ARun.forJ (Tryz.envOK (S:=S) 76 Tryz.ord208 fs5 fs5_ok) (hi-lo+1).toNat (fun i σ'=>∃x y j,σ'=σ++(.cells (t.map (AV.int .i64)):: .cells [.int .i64 1,.int .i64 a,.int .i64 b,.int .i64 s,.int .i64 x,.int .i64 y,.int .i64 sl]:: .tail (outAt ⟨1,a,b,s,⟨x,y⟩⟩ sl t i).length 1::j)) (fun i=>[(7,.list (.own (σ.length+2)) 1 ((outAt ⟨1,a,b,s,⟨x,y⟩⟩ sl t i).map (AV.int .i64))),(8,.int .i64 (lo+i))]) (by kernel_rfl) (by simp[upd,ins,subF,lookA,outAt]) ⟨x,y,[],by simp[outAt]⟩ ?_ ?_
 ·rintro i σ' hi' ⟨x',y',j,rfl⟩ ih
  have hokc:okR ⟨1,a,b,s,⟨lo+i,lo+i⟩⟩:=⟨hr.1,ha,hb,hsec,by simp only;omega,by simp only;omega⟩
  have hsu:=outAt_succ (r:=⟨1,a,b,s,⟨x,y⟩⟩) (sl:=sl) (t:=t) (i:=i)
  simp only[elo,withS] at hsu
  have hol:=outAt_len (r:=⟨1,a,b,s,⟨x,y⟩⟩) (sl:=sl) (t:=t) (i:=i)
  have hE:∀x' y' i,outAt ⟨1,a,b,s,⟨x',y'⟩⟩ sl t i=outAt ⟨1,a,b,s,⟨x,y⟩⟩ sl t i:=fun _ _ _=>rfl
  simp only[hE]
  cases hb2:isR ⟨1,a,b,s,⟨lo+i,lo+i⟩⟩ sl t
  ·rw[hb2] at hsu
   simp -implicitDefEqProofs (maxSteps:=9^9) (disch:=omega) only[go_sem,simprocAttr,hq,hlo,hhi,hokc,hs,hb2,tC_dec,decC]
   refine(ih _ ⟨lo+i,lo+i,j,?_⟩).castS rfl (by simp[upd,ins,subF,lookA,hsu,Int.add_assoc])
   simp[hE,hsu]
  ·rw[hb2] at hsu
   simp -implicitDefEqProofs (maxSteps:=9^9) (disch:=omega) only[go_sem,simprocAttr,hq,hlo,hhi,hokc,hs,hb2,tC_dec,decC]
   refine(ih _ ⟨lo+i,lo+i,j,?_⟩).castS rfl (by simp[upd,ins,subF,lookA,hsu,Int.add_assoc])
   simp[hE,hsu]
 ·rintro σ' ⟨x',y',j,rfl⟩
  simp -implicitDefEqProofs (maxSteps:=9^9) (disch:=omega) only[go_sem,simprocAttr,hq,hlo,hhi]
  exact⟨by simp[showsL,elo,ehi],.inl rfl,.inl rfl⟩
theorem shows2_p(r:Rd)(sl:Int)(t:List Int)(hr:okR r)(hk:r.kind=2)(ht:t.length=3)(hs:small t):PureV S 208 [.iface 254 r.av,tav t] (tIs.av (showsL r sl t)):=by
 refine PvE (Tryz.envOK (S:=S) 76 Tryz.ord208 fs5 fs5_ok) (Plain.ints) Tryz.kp208 Tryz.func208 rfl ?_
 intro σ
 obtain⟨k,a,b,s,x,y⟩:=r
 simp only at hk
 subst hk
 simp only[Rd.av,tav]
 obtain⟨ha,hb,hsec,hx,hy⟩:=hr.2
 simp only at ha hb hsec hx hy
 have hn:=mul_le (dist_le (small_tg hs a) (small_tg hs b)) hsec
 have hq:(dist (tg t a) (tg t b)*s).tdiv 100=dist (tg t a) (tg t b)*s/100:=Int.tdiv_eq_ediv_of_nonneg hn.1
 simp -implicitDefEqProofs (maxSteps:=9^9) (disch:=omega) only[go_sem,simprocAttr,hs,hq]
 exact⟨by simp[showsL],.inl rfl,.inl rfl⟩
theorem shows3_p(r:Rd)(sl:Int)(t:List Int)(hr:okR r)(hsl:0≤sl∧sl≤3)(hk:r.kind=3)(ht:t.length=3)(hs:small t):PureV S 208 [.iface 255 r.av,tav t] (tIs.av (showsL r sl t)):=by
 refine PvE (Tryz.envOK (S:=S) 76 Tryz.ord208 fs5 fs5_ok) (Plain.ints) Tryz.kp208 Tryz.func208 rfl ?_
 intro σ
 have hinv:=@invoke_is S 76 Tryz.ord208 fs5 (fun _=>⟨rfl,rfl,rfl⟩) r sl t
 have hrd:rdv r sl= .iface 255 r.av:=by simp[rdv,hk]
 rw[hrd] at hinv
 simp only[tav]
 cases hb:isR r sl t
 ·simp -implicitDefEqProofs (maxSteps:=9^9) (disch:=omega) only[go_sem,simprocAttr,hinv hr hsl ht hs,hb]
  exact⟨by simp[showsL,hk,hb],.inl rfl,.inl rfl⟩
 ·simp -implicitDefEqProofs (maxSteps:=9^9) (disch:=omega) only[go_sem,simprocAttr,hinv hr hsl ht hs,hb]
  exact⟨by simp[showsL,hk,hb],.inl rfl,.inl rfl⟩
theorem shows_p(r:Rd)(sl:Int)(t:List Int)(hr:okR r)(hsl:0≤sl∧sl≤3)(ht:t.length=3)(hs:small t):PureV S 208 [rdv r sl,tav t] (tIs.av (showsL r sl t)):=by
 have hk:=hr.1
 rcases(by omega:r.kind=1∨r.kind=2∨r.kind=3) with k | k | k
 ·obtain⟨rk,a,b,s,x,y⟩:=r
  simp only at k
  subst k
  exact shows1_p a b s x y sl t hr hsl ht hs
 ·have:=shows2_p (S:=S) r sl t hr k ht hs
  simpa[rdv,k] using this
 ·have:=shows3_p (S:=S) r sl t hr hsl k ht hs
  simpa[rdv,k] using this
theorem showsL_len{r:Rd}{sl:Int}{t:List Int}:(showsL r sl t).length≤30001:=by
 unfold showsL
 split
 ·refine Nat.le_trans outAt_len ?_
  have h1:0≤cLo (tg t r.a*r.sec) sl:=by unfold cLo mx;split<;> omega
  have h2:cHi (tg t r.a*r.sec) sl≤25000:=by unfold cHi mn;split<;> omega
  omega
 ·split<;> simp
end Go.Proofs
namespace Go.Proofs
open Go Go.Mu
end Go.Proofs
namespace Go.Proofs
open Go Go.Mu
variable {S:MC Tryz.prog}
def pushO(t:List Int)(m:List (Int×List (List Int)))(k:Int):List (Int×List (List Int)):=mset m k ((mget m k).getD []++[t])
def outS(r:Rd)(sl:Int)(m:List (Int×List (List Int)))(t:List Int):List (Int×List (List Int)):=(showsL r sl t).foldl (pushO t) m
def outcomesL(r:Rd)(sl:Int)(l:List (List Int)):List (Int×List (List Int)):=l.foldl (outS r sl) []
abbrev MT:=List (Int×(Nat×List (List Int)))
def mapT(m:MT):List (AV×AV):=m.map fun p=>(AV.int .i64 p.1,AV.list (.own p.2.1) 3 (p.2.2.map tav))
def strip(m:MT):List (Int×List (List Int)):=m.map fun p=>(p.1,p.2.2)
theorem fIdx_strip{k:Int}:∀{m:MT} {i:Nat},fIdx k (strip m) i=(fIdx k m i).map fun q=>(q.1,q.2.2)
 | [],_=>rfl
 | (k',v)::m,i=>by
  simp only[strip,List.map_cons,fIdx]
  split
  ·rfl
  ·exact fIdx_strip (m:=m)
theorem mget_strip{k:Int}{m:MT}:mget (strip m) k=(mget m k).map (·.2):=by
 unfold mget;rw[fIdx_strip];cases fIdx k m 0<;> rfl
theorem strip_mset{k:Int}{m:MT}{v:Nat×List (List Int)}:strip (mset m k v)=mset (strip m) k v.2:=by
 unfold mset;rw[fIdx_strip]
 cases fIdx k m 0 with
 | none=>simp[strip]
 | some q=>simp[strip,List.map_set]
theorem lookT_none{m:MT}{k:Int}{σ:List AObj}(h:mget m k=none):lookR false (.list .full 0 []) σ (findA (.int .i64 k) (mapT m) 0)=some (.list .full 0 [],σ):=by
 have:=lookR_map (f:=fun v:Nat×List (List Int)=>AV.list (.own v.1) 3 (v.2.map tav)) (m:=m) (k:=k) (ok:=false) (z:= .list .full 0 []) (σ:=σ)
 unfold mapT;rw[this,h];rfl
theorem lookT_some{m:MT}{k:Int}{σ:List AObj}{v:Nat×List (List Int)}(h:mget m k=some v):lookR false (.list .full 0 []) σ (findA (.int .i64 k) (mapT m) 0)=some (.list (.own v.1) 3 (v.2.map tav),σ):=by
 have:=lookR_map (f:=fun v:Nat×List (List Int)=>AV.list (.own v.1) 3 (v.2.map tav)) (m:=m) (k:=k) (ok:=false) (z:= .list .full 0 []) (σ:=σ)
 unfold mapT;rw[this,h];rfl
theorem updT{m:MT}{k:Int}{r id:Nat}{ts:List (List Int)}{xs:List AV}{σ:List AObj}(h:xs=ts.map tav):updR r (mapT m) (.int .i64 k) (.list (.own id) 3 xs) σ (findA (.int .i64 k) (mapT m) 0)=some (.tup [],hset σ r (.map (mapT (mset m k (id,ts))))):=by
 subst h
 exact updR_map (f:=fun v:Nat×List (List Int)=>AV.list (.own v.1) 3 (v.2.map tav)) (v:=(id,ts))
structure OutOK(B:Nat)(σ:List AObj)(m:MT)(τ:List AObj):Prop where
 len:σ.length<τ.length
 old:∀k,k<σ.length→hget τ k=hget σ k
 map:hget τ σ.length=some (.map (mapT m))
 tl:∀p∈m,σ.length<p.2.1∧hget τ p.2.1=some (.tail p.2.2.length 3)∧p.2.2.length≤B
 nd:(m.map fun p=>p.2.1).Nodup
theorem OutOK.lt{B:Nat}{σ:List AObj}{m:MT}{τ:List AObj}(h:OutOK B σ m τ){p:Int×(Nat×List (List Int))}(hp:p∈m):p.2.1<τ.length:=hget_lt (h.tl p hp).2.1
theorem OutOK.app{B:Nat}{σ:List AObj}{m:MT}{τ l:List AObj}(h:OutOK B σ m τ):OutOK B σ m (τ++l):=
 ⟨by have:=h.len;simp;omega,fun k hk=>by rw[hget_app (by have:=h.len;omega)];exact h.old k hk,by rw[hget_app h.len];exact h.map,fun p hp=>⟨(h.tl p hp).1,by rw[hget_app (h.lt hp)];exact(h.tl p hp).2.1,(h.tl p hp).2.2⟩,h.nd⟩
theorem OutOK.mono{B C:Nat}{σ:List AObj}{m:MT}{τ:List AObj}(h:OutOK B σ m τ)(hc:B≤C):OutOK C σ m τ:=⟨h.len,h.old,h.map,fun p hp=>⟨(h.tl p hp).1,(h.tl p hp).2.1,Nat.le_trans (h.tl p hp).2.2 hc⟩,h.nd⟩
theorem OutOK.new{B:Nat}(hB:1≤B){σ:List AObj}{m:MT}{τ:List AObj}(h:OutOK B σ m τ){k:Int}{t:List Int}(hg:mget m k=none):OutOK B σ (mset m k (τ.length,[t])) (hset (τ++[.tail 1 3]) σ.length (.map (mapT (mset m k (τ.length,[t]))))):=by
 have hf:fIdx k m 0=none:=by unfold mget at hg;cases hx:fIdx k m 0 with | none=>rfl | some q=>rw[hx] at hg;cases hg
 have hm:mset m k (τ.length,[t])=m++[(k,(τ.length,[t]))]:=by unfold mset;rw[hf]
 have hl:=h.len
 refine⟨by rw[length_hset];simp;omega,fun q hq=>by rw[hget_ne (by omega),hget_app (by omega)];exact h.old q hq,hget_set (by rw[hget_app hl];exact h.map) _,fun p hp=>?_,?_⟩
 ·rw[hm] at hp
  rcases List.mem_append.1 hp with hp | hp
  ·have h2:=h.tl p hp
   have h3:=h.lt hp
   exact⟨h2.1,by rw[hget_ne (by omega),hget_app h3];exact h2.2.1,h2.2.2⟩
  ·simp at hp;subst hp
   exact⟨hl,by rw[hget_ne (by simp only;omega)];exact hget_at0,hB⟩
 ·rw[hm,List.map_append,List.nodup_append]
  refine⟨h.nd,by simp,fun a ha b hb=>?_⟩
  simp at hb;subst hb
  obtain⟨p,hp,rfl⟩:=List.mem_map.1 ha
  have:=h.lt hp
  omega
theorem OutOK.more{B:Nat}{σ:List AObj}{m:MT}{τ:List AObj}(h:OutOK B σ m τ){k:Int}{t:List Int}{id:Nat}{ts:List (List Int)}(hg:mget m k=some (id,ts)) :
  OutOK (B+1) σ (mset m k (id,ts++[t])) (hset (hset τ id (.tail (ts.length+1) 3)) σ.length (.map (mapT (mset m k (id,ts++[t]))))):=by
 obtain⟨j,hf⟩:∃j,fIdx k m 0=some (j,(id,ts)):=by
  unfold mget at hg
  cases hx:fIdx k m 0 with
  | none=>rw[hx] at hg;cases hg
  | some q=>obtain⟨j,v⟩:=q;rw[hx] at hg;simp at hg;subst hg;exact⟨j,rfl⟩
 have hm:mset m k (id,ts++[t])=m.set j (k,(id,ts++[t])):=by unfold mset;rw[hf]
 have hj:=(fIdx_get hf).2
 simp only[Nat.sub_zero] at hj
 have hl:=h.len
 have hmem:(k,(id,ts))∈m:=List.mem_of_getElem? hj
 obtain⟨i1,i2,i3⟩:=h.tl _ hmem
 simp only at i1 i2 i3
 obtain⟨hjl,hje⟩:=List.getElem?_eq_some_iff.1 hj
 refine⟨by simp only[length_hset];exact hl,fun q hq=>by rw[hget_ne (by omega),hget_ne (by omega)];exact h.old q hq,hget_set (by rw[hget_ne (by omega)];exact h.map) _,fun p hp=>?_,?_⟩
 ·rw[hm] at hp
  obtain⟨i,hi,rfl⟩:=List.mem_iff_getElem.1 hp
  rw[List.getElem_set]
  by_cases e:j=i
  ·rw[if_pos e]
   exact⟨i1,by simp only;rw[hget_ne (by omega)];simpa using hget_set i2 _,by simp;omega⟩
  ·rw[if_neg e]
   have hi':i<m.length:=by simpa using hi
   have h2:=h.tl _ (List.getElem_mem hi')
   have hne:m[i].2.1≠id:=fun e2=>by
    have:=h.nd
    rw[List.nodup_iff_pairwise_ne,List.pairwise_iff_getElem] at this
    rcases Nat.lt_or_gt_of_ne e with h4 | h4
    ·have:=this j i (by simpa using hjl) (by simpa using hi') h4
     simp[hje] at this;exact this e2.symm
    ·have:=this i j (by simpa using hi') (by simpa using hjl) h4
     simp[hje] at this;exact this e2
   exact⟨h2.1,by rw[hget_ne (by omega),hget_ne (fun e2=>hne e2.symm)];exact h2.2.1,by omega⟩
 ·have:(mset m k (id,ts++[t])).map (fun p=>p.2.1)=m.map fun p=>p.2.1:=by
   rw[hm,List.map_set]
   apply List.ext_getElem?
   intro i
   rw[List.getElem?_set]
   by_cases e:j=i
   ·subst e;simp[hjl,hje]
   ·simp[e]
  rw[this];exact h.nd
theorem outcomes_c(r:Rd)(sl:Int)(l:List (List Int))(hr:okR r)(hsl:0≤sl∧sl≤3)(hl:l.length≤10000)(h3:∀t∈l,t.length=3∧small t)(σ:List AObj)(Q:AV→List AObj→Prop)(h:∀τ m,OutOK 300010000 σ m τ→strip m=outcomesL r sl l→Q (.map σ.length) τ) :
  ACalls S 170 [tavs l,rdv r sl] σ Q:=by
 refine AcE (Tryz.envOK (S:=S) 36 (fun _=>([],[])) fs5 fs5_ok) Tryz.kp170 Tryz.func170 rfl ?_
 simp only[tavs]
 simp -implicitDefEqProofs (maxSteps:=9^9) (disch:=omega) only[go_sem,simprocAttr,tav]
 refine ARun.forJ (Tryz.envOK (S:=S) 36 (fun _=>([],[])) fs5 fs5_ok) l.length (fun i τ=>∃m,OutOK (i*30001) σ m τ∧strip m=(l.take i).foldl (outS r sl) []) (fun i=>[(13,.int .i64 i)]) (by kernel_rfl) (by simp[upd,ins,subF,lookA]) ⟨[],⟨by simp,fun k hk=>hget_app hk,hget_at0,by simp,by simp⟩,rfl⟩ ?_ ?_
 ·rintro i τ hi ⟨m,hO,hm⟩ ih
  have hmi:l[i]∈l:=List.getElem_mem hi
  obtain⟨h3i,hsi⟩:=h3 _ hmi
  rw[foldl_take _ _ _ _ hi,← hm] at ih
  simp -implicitDefEqProofs (maxSteps:=9^9) (disch:=omega) only[go_sem,simprocAttr,tav]
  refine shows_p r sl l[i] hr hsl h3i hsi _ _ ?_
  simp only[tIs]
  have hsl2:=showsL_len (r:=r) (sl:=sl) (t:=l[i])
  simp -implicitDefEqProofs (maxSteps:=9^9) (disch:=omega) only[go_sem,simprocAttr,tav]
  refine ARun.forJ (Tryz.envOK (S:=S) 36 (fun _=>([],[])) fs5 fs5_ok) (showsL r sl l[i]).length (fun i2 τ2=>∃m2,OutOK (i*30001+i2) σ m2 τ2∧strip m2=((showsL r sl l[i]).take i2).foldl (pushO l[i]) (strip m)∧hget τ2 τ.length=some (.cells (l[i].map (AV.int .i64)))) (fun i2=>[(21,.int .i64 i2)]) (by kernel_rfl) (by simp[upd,ins,subF,lookA]) ⟨m,hO.app,rfl,hget_at0⟩ ?_ ?_
  ·rintro i2 τ2 hi2 ⟨m2,hO2,hm2,hb⟩ ih2
   rw[foldl_take _ _ _ _ hi2,← hm2] at ih2
   generalize hkk:(showsL r sl l[i])[i2]=kk at ih2
   have hmap:=hO2.map
   cases hg:mget m2 kk with
   | none=>
    have hmap':∀l,hget (τ2++l) σ.length=some (.map (mapT m2)):=fun l=>by rw[hget_app hO2.len];exact hmap
    have hu:∀r id σ,updR r (mapT m2) (.int .i64 kk) (.list (.own id) 3 [.agg (l[i].map (AV.int .i64))]) σ (findA (.int .i64 kk) (mapT m2) 0)=some (.tup [],hset σ r (.map (mapT (mset m2 kk (id,[l[i]]))))):=fun _ _ _=>updT rfl
    simp -implicitDefEqProofs (maxSteps:=9^9) (disch:=omega) only[go_sem,simprocAttr,tav,hkk,hmap,hmap',hb,lookT_none hg,hu]
    have hbl:=hget_lt hb
    have hτ:σ.length<τ.length:=hO.len
    refine(ih2 _ ⟨_,(hO2.mono (by omega)).new (by omega) hg,?_,?_⟩).castS rfl (by simp[upd,ins,subF,lookA])
    ·rw[strip_mset,pushO,mget_strip,hg];rfl
    ·rw[hget_ne (by omega),hget_app hbl];exact hb
   | some v=>
    obtain⟨id,ts⟩:=v
    obtain⟨t1,t2,t3⟩:=hO2.tl _ (mget_mem hg)
    simp only at t1 t2 t3
    have hu:∀r id σ,updR r (mapT m2) (.int .i64 kk) (.list (.own id) 3 (ts.map tav++[.agg (l[i].map (AV.int .i64))])) σ (findA (.int .i64 kk) (mapT m2) 0)=some (.tup [],hset σ r (.map (mapT (mset m2 kk (id,ts++[l[i]]))))):=fun _ _ _=>updT (by simp[tav])
    have hmap':∀o,hget (hset τ2 id o) σ.length=some (.map (mapT m2)):=fun o=>by rw[hget_ne (by omega)];exact hmap
    simp -implicitDefEqProofs (maxSteps:=9^9) (disch:=omega) only[go_sem,simprocAttr,tav,hkk,hmap,hmap',hb,lookT_some hg,hu,t2]
    have hbl:=hget_lt hb
    have hτ:σ.length<τ.length:=hO.len
    have hne:id≠τ.length:=fun e=>by rw[e] at t2;rw[hb] at t2;cases t2
    refine(ih2 _ ⟨_,(hO2.more hg).mono (by omega),?_,?_⟩).castS rfl (by simp[upd,ins,subF,lookA])
    ·rw[strip_mset,pushO,mget_strip,hg];rfl
    ·rw[hget_ne (by omega),hget_ne hne];exact hb
  ·rintro τ2 ⟨m2,hO2,hm2,hb⟩
   rw[List.take_length] at hm2
   simp -implicitDefEqProofs (maxSteps:=9^9) (disch:=omega) only[go_sem,simprocAttr,tav]
   refine(ih τ2 ⟨m2,hO2.mono (by rw[Nat.succ_mul];omega),hm2⟩).castS rfl (by simp[upd,ins,subF,lookA])
 ·rintro τ ⟨m,hO,hm⟩
  rw[List.take_length] at hm
  simp -implicitDefEqProofs (maxSteps:=9^9) (disch:=omega) only[go_sem,simprocAttr,tav]
  exact h τ m (hO.mono (by omega)) hm
end Go.Proofs
namespace Go.Proofs
open Go Go.Mu
theorem outcomes_sub{r:Rd}{sl:Int}{l:List (List Int)}:∀p∈outcomesL r sl l,p.2≠[]∧∀t∈p.2,t∈l:=by
 have key:∀(l0:List (List Int)) (m:List (Int×List (List Int))),(∀p∈m,p.2≠[]∧∀t∈p.2,t∈l)→(∀t∈l0,t∈l)→∀p∈l0.foldl (outS r sl) m,p.2≠[]∧∀t∈p.2,t∈l:=by
  intro l0
  induction l0 with
  | nil=>intro m h _;exact h
  | cons t l0 ih=>
   intro m h ht
   refine ih (outS r sl m t) ?_ (fun u hu=>ht u (by simp[hu]))
   have htl:=ht t (by simp)
   unfold outS
   generalize showsL r sl t=ks
   clear ih
   induction ks generalizing m with
   | nil=>exact h
   | cons k ks ih=>
    refine ih (m:=pushO t m k) fun p hp=>?_
    rcases mset_mem hp with rfl | hp
    ·refine⟨by simp,fun u hu=>?_⟩
     rcases List.mem_append.1 hu with hu | hu
     ·cases hg:mget m k with
      | none=>rw[hg] at hu;simp at hu
      | some v=>rw[hg] at hu;exact(h _ (mget_mem hg)).2 u hu
     ·simp at hu;subst hu;exact htl
    ·exact h p hp
 exact key l [] (by simp) (fun t ht=>ht)
def gateS(sl:Int)(l:List (List Int))(x width s:Int):Bool:=(outcomesL ⟨1,x,0,s,⟨0,0⟩⟩ sl l).all fun p=>decide ((spanL (fun t=>tg t x) p.2).hi- (spanL (fun t=>tg t x) p.2).lo≤width)
def gateW(m x width:Int):Int:=if 0≤x∧x≤m-1 then(if width<0 then 1 else 0) else 3
def gateL(e:Ear)(x width:Int):Int×Int:=
 if(askL e (gateW e.tones.length x width)).2=0 then
  (match (List.range 20).find? (fun k:Nat=>gateS e.slack (truthsL e) x width (k+1)) with
  | some k=>((k:Int)+1,0)
  | none=>(0,11))
 else(0,(askL e (gateW e.tones.length x width)).2)
theorem find_range{f:Nat→Bool}{i n:Nat}(hi:i<n)(h:∀k,k<i→f k=false)(hf:f i=true):(List.range n).find? f=some i:=by
 rw[List.find?_range_eq_some]
 exact⟨hf,by simpa using hi,fun j hj=>by simp[h j hj]⟩
theorem find_none{f:Nat→Bool}{n:Nat}(h:∀k,k<n→f k=false):(List.range n).find? f=none:=by
 rw[List.find?_eq_none]
 intro x hx
 simp at hx
 simp[h x hx]
theorem spanL_bound{l:List (List Int)}(h:∀t∈l,small t)(hl:l≠[])(x:Int):0≤(spanL (fun t=>tg t x) l).lo∧(spanL (fun t=>tg t x) l).lo≤1000000∧0≤(spanL (fun t=>tg t x) l).hi∧(spanL (fun t=>tg t x) l).hi≤1000000:=by
 have key:∀(l:List (List Int)) (y:Rng),(∀t∈l,small t)→(0≤y.lo∧y.lo≤1000000∧0≤y.hi∧y.hi≤1000000)→(0≤(l.foldl (spanS fun t=>tg t x) y).lo∧(l.foldl (spanS fun t=>tg t x) y).lo≤1000000∧0≤(l.foldl (spanS fun t=>tg t x) y).hi∧(l.foldl (spanS fun t=>tg t x) y).hi≤1000000):=by
  intro l
  induction l with
  | nil=>intro y _ hy;exact hy
  | cons t l ih=>
   intro y ht hy
   refine ih _ (fun u hu=>ht u (by simp[hu])) ?_
   have:=small_tg (ht t (by simp)) x
   simp only[spanS,mn,mx]
   refine⟨?_,?_,?_,?_⟩<;> split<;> omega
 obtain⟨t,l,rfl⟩:∃t l',l=t::l':=by cases l with | nil=>exact absurd rfl hl | cons a b=>exact⟨a,b,rfl⟩
 have:=small_tg (h t (by simp)) x
 exact key _ _ h (by simp only[List.headD_cons];omega)
theorem ARun.loopJ{E:Env}(hE:EnvOK E){ro:Option Nat}{c:Code}{k:List Item}{kp:Nat→Bool}{tm sl:List (Nat×AV)}{σ:List AObj}{Q:Post}{α:Type}(m:α→Nat)(J:α→List AObj→Prop)(lv:α→List (Nat×AV))(x0:α)
  (hO:todoOK E (.code c:: .inLoop c::k)=true) (h0:subF (upd sl (lv x0)) sl) (hJ:J x0 σ)
  (hs:∀x τ,J x τ→(∀y τ',m y<m x→J y τ'→ARun E ro (.inLoop c::k) ⟨kp,[],upd sl (lv y)⟩ τ' Q)→ev E ro 100000 (.code c:: .inLoop c::k) ⟨kp,[],upd sl (lv x)⟩ τ Q):ARun E ro (.code (.loop c)::k) ⟨kp,tm,sl⟩ σ Q:=by
 have key:∀n x τ,m x=n→J x τ→ARun E ro (.code c:: .inLoop c::k) ⟨kp,[],upd sl (lv x)⟩ τ Q:=by
  intro n
  induction n using Nat.strongRecOn with
  | _ n ih=>
   intro x τ hm hj
   exact ev_sound hE hO (hs x τ hj fun y τ' hlt hy=> .inLoop (ih (m y) (by omega) y τ' rfl hy))
 exact .loop (ARun.sub (key _ x0 σ rfl hJ) h0)
theorem nextA_intro{X:AV→List AObj→Prop}{τ:List AObj}{r q c:Nat}{seen:List Nat}{es:List (AV×AV)}(hg:hget τ r=some (.iter (some q) c seen))(hq:hget τ q=some (.map es))(hc:c=es.length)
  (h1:∀i k v,es[i]? = some (k,v)→i∉seen→X (.tup [.bool true,k,v]) (hset τ r (.iter (some q) c (seen++[i])))) (h2:(∀i,i<es.length→i∈seen)→X (.tup [.bool false]) τ):nextA X τ (some (.ptr r 0)):=by
 unfold nextA
 simp only[hg,hq]
 exact⟨hc,h1,h2⟩
theorem nodup_lt:∀{n:Nat} {l:List Nat},l.Nodup→(∀i∈l,i<n)→l.length≤n
 | 0,l,_,hl=>by
  cases l with
  | nil=>simp
  | cons a l=>have:=hl a (by simp);omega
 | n+1,l,h,hl=>by
  by_cases hm:n∈l
  ·have h1:(l.erase n).length≤n:=nodup_lt (h.erase n) fun i hi=>by
    have h2:=hl i (List.mem_of_mem_erase hi)
    have h3:i≠n:=(List.Nodup.mem_erase_iff h).1 hi |>.1
    omega
   rw[List.length_erase_of_mem hm] at h1
   omega
  ·have:=nodup_lt h fun i hi=>by
    have h2:=hl i hi
    have h3:i≠n:=fun e=>hm (e▸hi)
    show i<n
    omega
   omega
end Go.Proofs
namespace Go.Proofs
open Go Go.Mu
variable {S:MC Tryz.prog}
theorem Ear_eta(e:Ear):(⟨e.slack,e.tones,e.rds⟩: Ear)=e:=rfl
theorem ii_plain{a b:Int}:Plain (.tup [.int .i64 a,.int .i64 b]):= .tup (by simp;exact⟨.int,.int⟩)
theorem gateW_ok{m x w:Int}(h:gateW m x w=0):(0≤x∧x≤m-1)∧0≤w:=by unfold gateW at h;grind
theorem gate_p(e:Ear)(x width:Int)(h1:e.tones.length≤4294967296)(h2:e.rds.length≤4294967296):PureV S 133 [e.av,.int .i64 x,.int .i64 width] (.tup [.int .i64 (gateL e x width).1,.int .i64 (gateL e x width).2]):=by
 refine PvE (Tryz.envOK (S:=S) 63 (fun _=>([],[])) fs9 fs9_ok) (ii_plain) Tryz.kp133 Tryz.func133 rfl ?_
 intro σ
 simp only[Ear.av]
 by_cases hk:(askL e (gateW e.tones.length x width)).2=0
 ·obtain⟨hc,hw,hn,hke⟩:=askL_ok hk
  rw[hw] at hke
  have he:=okE_of_ck hc
  obtain⟨hx,hwd⟩:=gateW_ok hw
  have hlen:=he.len
  have htl:=truthsL_len he
  have hx2:0≤x∧x≤2:=by omega
  have hke':askL ⟨e.slack,e.tones,e.rds⟩ 0=(truthsL e,0):=hke
  simp -implicitDefEqProofs (maxSteps:=9^9) (disch:=omega) only[go_sem,simprocAttr,hke',tavs]
  refine ARun.forS (Tryz.envOK (S:=S) 63 (fun _=>([],[])) fs9 fs9_ok) 20 (fun i=>∀k,k<i→gateS e.slack (truthsL e) x width (k+1)=false) (fun i=>[(11,.int .i64 ((i:Int)+1))]) (fun _ j=>σ++(.cells e.cells:: .cells [.int .i64 x]::j)) [] (by kernel_rfl) (by simp[Ear.cells]) (by simp[upd,ins,subF,lookA]) (by simp) ?_ ?_
  ·intro i j hi hP ih
   have hr:okR ⟨1,x,0,(i:Int)+1,⟨0,0⟩⟩:=⟨by simp only;omega,hx2,by simp only;omega,by simp only;omega,by simp only;omega,by simp only;omega⟩
   simp -implicitDefEqProofs (maxSteps:=9^9) (disch:=omega) only[go_sem,simprocAttr,Ear.cells,giveB_rdv]
   refine outcomes_c ⟨1,x,0,(i:Int)+1,⟨0,0⟩⟩ e.slack (truthsL e) hr he.sl (by omega) (truthsL_ok he) _ _ fun τ m hO hm=>?_
   have hmap:=hO.map
   have hlenS:=hO.len
   have hold:=hO.old
   have hs0:=hold σ.length (by simp)
   have hs1:=hold (σ.length+1) (by simp)
   rw[hget_at0] at hs0
   rw[hget_at] at hs1
   simp only[List.getElem?_cons_zero,List.getElem?_cons_succ] at hs0 hs1
   simp only[List.length_append,List.length_cons] at hmap hlenS hold
   generalize hrm:σ.length+(j.length+1+1)=rm at hmap hlenS hold
   have hml:(mapT m).length=m.length:=by simp[mapT]
   simp -implicitDefEqProofs (maxSteps:=9^9) (disch:=omega) only[go_sem,simprocAttr,hmap,hrm,hml]
   let Ok (i2:Nat):Prop:=∀p,m[i2]? = some p→(spanL (fun t=>tg t x) p.2.2).hi- (spanL (fun t=>tg t x) p.2.2).lo≤width
   refine ARun.loopJ (Tryz.envOK (S:=S) 63 (fun _=>([],[])) fs9 fs9_ok) (α:=List Nat) (fun seen=>m.length-seen.length) (fun seen τ'=>τ.length<τ'.length∧(∀q,q<σ.length→hget τ' q=hget σ q)∧hget τ' σ.length=some (.cells e.cells)∧hget τ' (σ.length+1)=some (.cells [.int .i64 x])∧hget τ' rm=some (.map (mapT m))∧hget τ' τ.length=some (.iter (some rm) m.length seen)∧seen.Nodup∧(∀i2∈seen,i2<m.length∧Ok i2)) (fun _=>[]) [] (by kernel_rfl) (by simp[upd,ins,subF,lookA]) ?_ ?_
   ·refine⟨by simp,fun q hq=>?_,?_,?_,?_,hget_at0,by simp,by simp⟩
    ·rw[hget_app (by omega),hold q (by omega),hget_app hq]
    ·rw[hget_app (by omega)];exact hs0
    ·rw[hget_app (by omega)];exact hs1
    ·rw[hget_app (by omega)];exact hmap
   ·rintro seen τ' ⟨j1,j2,j3,j4,j5,j6,j7,j8⟩ ih2
    simp -implicitDefEqProofs (maxSteps:=9^9) (disch:=omega) only[go_sem,simprocAttr]
    refine nextA_intro j6 j5 hml.symm (fun i2 k v hi2 hns=>?_) (fun hall=>?_)
    ·obtain⟨p,hp,hkv⟩:∃p,m[i2]? = some p∧(AV.int .i64 p.1,AV.list (.own p.2.1) 3 (p.2.2.map tav))=(k,v):=by simpa[mapT] using hi2
     simp only[Prod.mk.injEq] at hkv
     obtain⟨rfl,rfl⟩:=hkv
     have hpm:p∈m:=List.mem_of_getElem? hp
     obtain⟨hi2l,_⟩:=List.getElem?_eq_some_iff.1 hp
     have hpo:(p.1,p.2.2)∈outcomesL ⟨1,x,0,(i:Int)+1,⟨0,0⟩⟩ e.slack (truthsL e):=by rw[← hm];exact List.mem_map.2 ⟨p,hpm,rfl⟩
     obtain⟨hne,hsub⟩:=outcomes_sub _ hpo
     simp only at hne hsub
     have htlp:=(hO.tl p hpm).2.2
     have hsm:∀t∈p.2.2,t.length=3∧small t:=fun t ht=>truthsL_ok he t (hsub t ht)
     obtain⟨b1,b2,b3,b4⟩:=spanL_bound (fun t ht=>(hsm t ht).2) hne x
     have hrτ:rm<τ.length:=hget_lt hmap
     have k1:hget (hset τ' τ.length (.iter (some rm) m.length (seen++[i2]))) τ.length=some (.iter (some rm) m.length (seen++[i2])):=hget_set j6 _
     have k2:∀q,q≠τ.length→hget (hset τ' τ.length (.iter (some rm) m.length (seen++[i2]))) q=hget τ' q:=fun q hq=>hget_ne (fun e=>hq e.symm)
     have k3:(hset τ' τ.length (.iter (some rm) m.length (seen++[i2]))).length=τ'.length:=length_hset
     generalize hset τ' τ.length (.iter (some rm) m.length (seen++[i2]))=τ1 at k1 k2 k3⊢
     have k5:hget τ1 rm=some (.map (mapT m)):=by rw[k2 _ (by omega)];exact j5
     have k6:hget τ1 (σ.length+1)=some (.cells [.int .i64 x]):=by rw[k2 _ (by omega)];exact j4
     have hgl:(seen++[i2]).getLast? = some i2:=by simp
     simp -implicitDefEqProofs (maxSteps:=9^9) (disch:=omega) only[go_sem,simprocAttr,k1,k5,hgl,hi2,hml]
     refine ACalls.weaken (l':=[tavs p.2.2,.fn (.func 171) [] [.ptr (σ.length+1) 0]]) ⟨⟨rfl,.inl rfl,.inl rfl⟩,rfl,trivial⟩ (span_c (fun t=>tg t x) p.2.2 hne (by omega) (fun t ht=>(hsm t ht).1) (fun t ht=>gate1_v k6 hx2 (hsm t ht).1) _ ?_)
     by_cases hcmp:width<(spanL (fun t=>tg t x) p.2.2).hi- (spanL (fun t=>tg t x) p.2.2).lo
     ·simp -implicitDefEqProofs (maxSteps:=9^9) (disch:=omega) only[go_sem,simprocAttr,Rng.av]
      have hg:gateS e.slack (truthsL e) x width ((i:Int)+1)=false:=by
       unfold gateS
       rw[List.all_eq_false]
       exact⟨_,hpo,by simp only[decide_eq_true_eq];omega⟩
      obtain⟨j',hj'⟩:=app_of_same (σ:=σ++[.cells e.cells,.cells [.int .i64 x]]) (τ:=τ1++[.cells [.int .i64 (spanL (fun t=>tg t x) p.2.2).lo,.int .i64 (spanL (fun t=>tg t x) p.2.2).hi]]) (by simp;omega) (fun q hq=>by
       simp only[List.length_append,List.length_cons,List.length_nil] at hq
       rw[hget_app (by omega),k2 _ (by omega)]
       rcases(by omega:q<σ.length∨q=σ.length∨q=σ.length+1) with hq' | rfl | rfl
       ·rw[j2 q hq',hget_app hq']
       ·rw[j3,hget_at0];rfl
       ·rw[j4,hget_at];rfl)
      rw[hj',List.append_assoc]
      refine(ih (fun k hk2=>?_) j').castS rfl (by simp[upd,ins,subF,lookA])
      rcases(by omega:k<i∨k=i) with hk3 | rfl
      ·exact hP k hk3
      ·exact hg
     ·simp -implicitDefEqProofs (maxSteps:=9^9) (disch:=omega) only[go_sem,simprocAttr,Rng.av]
      have hnd:(seen++[i2]).Nodup:=by
       rw[List.nodup_append]
       exact⟨j7,by simp,fun a ha b hb e=>by simp at hb;subst hb;exact hns (e▸ha)⟩
      have hall2:∀i3∈seen++[i2],i3<m.length∧Ok i3:=fun i3 h3=>by
       rcases List.mem_append.1 h3 with h3 | h3
       ·exact j8 i3 h3
       ·simp at h3;subst h3
        refine⟨hi2l,fun p' hp'=>?_⟩
        rw[hp] at hp';simp at hp';subst hp';omega
      have hcard:=nodup_lt hnd (fun i3 h3=>(hall2 i3 h3).1)
      simp only[List.length_append,List.length_cons,List.length_nil] at hcard
      refine(ih2 (seen++[i2]) _ (by simp only[List.length_append,List.length_cons,List.length_nil];omega) ⟨by simp;omega,fun q hq=>by rw[hget_app (by omega),k2 _ (by omega)];exact j2 q hq,by rw[hget_app (by omega),k2 _ (by omega)];exact j3,by rw[hget_app (by omega)];exact k6,by rw[hget_app (by omega)];exact k5,by rw[hget_app (by omega)];exact k1,hnd,hall2⟩).castS rfl (by simp[upd,ins,subF,lookA])
    ·have hg:gateS e.slack (truthsL e) x width ((i:Int)+1)=true:=by
      unfold gateS
      rw[List.all_eq_true]
      intro p' hp'
      rw[← hm] at hp'
      obtain⟨p,hp,rfl⟩:=List.mem_map.1 hp'
      obtain⟨i2,hi2,rfl⟩:=List.mem_iff_getElem.1 hp
      have:=(j8 i2 (hall i2 (by rw[hml];exact hi2))).2 _ (List.getElem?_eq_getElem hi2)
      simpa using this
     have hf:=find_range (f:=fun k:Nat=>gateS e.slack (truthsL e) x width (k+1)) hi hP hg
     simp -implicitDefEqProofs (maxSteps:=9^9) (disch:=omega) only[go_sem,simprocAttr]
     refine gives_same (by omega) (fun q hq=>j2 q hq) ?_
     simp[gateL,hk,hf,wk,wkL,wk1,wk0]
  ·intro j hP
   have hf:=find_none (f:=fun k:Nat=>gateS e.slack (truthsL e) x width (k+1)) (n:=20) hP
   simp -implicitDefEqProofs (maxSteps:=9^9) (disch:=omega) only[go_sem,simprocAttr]
   simp[gateL,hk,hf]
 ·have hk':¬(askL ⟨e.slack,e.tones,e.rds⟩ (gateW e.tones.length x width)).2=0:=hk
  by_cases hx:0≤x∧x≤(e.tones.length:Int)-1
  ·by_cases hw:width<0
   ·have hv:gateW e.tones.length x width=1:=by simp[gateW,hx,hw]
    rw[hv] at hk'
    simp -implicitDefEqProofs (maxSteps:=9^9) (disch:=omega) only[go_sem,simprocAttr,hk',tavs]
    rw[hv] at hk
    simp[gateL,hk,hv,Ear_eta]
   ·have hv:gateW e.tones.length x width=0:=by simp[gateW,hx,hw]
    rw[hv] at hk'
    simp -implicitDefEqProofs (maxSteps:=9^9) (disch:=omega) only[go_sem,simprocAttr,hk',tavs]
    rw[hv] at hk
    simp[gateL,hk,hv,Ear_eta]
  ·have hv:gateW e.tones.length x width=3:=by unfold gateW;rw[if_neg hx]
   rw[hv] at hk'
   simp -implicitDefEqProofs (maxSteps:=9^9) (disch:=omega) only[go_sem,simprocAttr,hk',tavs,hx]
   rw[hv] at hk
   simp[gateL,hk,hv,Ear_eta]
def gate_s:=spec3 tEar tI tI fun e a b=>if e.tones.length≤4294967296∧e.rds.length≤4294967296 then some (.tup [.int .i64 (gateL e a b).1,.int .i64 (gateL e a b).2]) else none
theorem gate_ok:∀xs v,gate_s xs=some v→PureV S 133 xs v:=
 spec3_ok fun e a b v h=>by have h:=someIf h;rw[← h.2];exact gate_p e a b h.1.1 h.1.2
def fs10(f:FuncId)(xs:List AV):Option AV:=if f=133 then gate_s xs else fs9 f xs
theorem fs10_ok{S:MC Tryz.prog}:∀f xs v,fs10 f xs=some v→PureV S f xs v:=by
 intro f xs v h
 unfold fs10 at h
 split at h
 ·rename_i e;subst e;exact gate_ok _ _ h
 exact fs9_ok _ _ _ h
attribute [go_sem] fs10 gate_s
end Go.Proofs
namespace Go.Proofs
open Go Go.Mu
end Go.Proofs
namespace Go.Proofs
open Go Go.Mu
variable {S:MC Tryz.prog}
def fs11(f:FuncId)(xs:List AV):Option AV:=  fs10 f xs
theorem fs11_ok{S:MC Tryz.prog}:∀f xs v,fs11 f xs=some v→PureV S f xs v:=by
 intro f xs v h
 unfold fs11 at h
 exact fs10_ok _ _ _ h
attribute [go_sem] fs11
def fs12(f:FuncId)(xs:List AV):Option AV:=  fs11 f xs
theorem fs12_ok{S:MC Tryz.prog}:∀f xs v,fs12 f xs=some v→PureV S f xs v:=by
 intro f xs v h
 unfold fs12 at h
 exact fs11_ok _ _ _ h
attribute [go_sem] fs12
theorem Ear.plain(e:Ear):Plain e.av:= .agg (by simp;exact⟨.int,.map fun x _=>Rng.plain x,.map fun x _=>Rd.plain x⟩)
def fs13(f:FuncId)(xs:List AV):Option AV:=  fs12 f xs
theorem fs13_ok{S:MC Tryz.prog}:∀f xs v,fs13 f xs=some v→PureV S f xs v:=by
 intro f xs v h
 unfold fs13 at h
 exact fs12_ok _ _ _ h
attribute [go_sem] fs13
theorem rngs_plain(l:List Rng):Plain (.list .no 2 (l.map Rng.av)):= .map fun x _=>Rng.plain x
theorem ranges_p(l:List Rng)(hl:l.length≤4294967296):PureV S 143 [.list .no 2 (l.map Rng.av)] (.list .no 2 (l.map Rng.av)):=by
 refine PvE (Tryz.envOK (S:=S) 6 (fun _=>([],[])) fs0 fs0_ok) (rngs_plain _) Tryz.kp143 Tryz.func143 rfl ?_
 intro σ
 simp -implicitDefEqProofs (maxSteps:=9^9) (disch:=omega) only[go_sem,simprocAttr]
def tRngs:Ty (List Rng):=⟨decL 2 decRng,fun l=> .list .no 2 (l.map Rng.av),decL_inv' decRng_inv⟩
theorem tRngs_dec{a:AV}:tRngs.dec a=decL 2 decRng a:=rfl
def ranges_s:=spec1 tRngs fun l=>if l.length≤4294967296 then some (.list .no 2 (l.map Rng.av)) else none
theorem ranges_ok:∀xs v,ranges_s xs=some v→PureV S 143 xs v:=
 spec1_ok fun l v h=>by have h:=someIf h;rw[← h.2];exact ranges_p l h.1
theorem sameRanges_p(a b:List Rng)(hl:a.length≤4294967296)(hl2:b.length≤4294967296):PureV S 44 [.list .no 2 (a.map Rng.av),.list .no 2 (b.map Rng.av)] (.bool (decide (a=b))):=by
 refine PvE (Tryz.envOK (S:=S) 31 Tryz.ord44 fs0 fs0_ok) (.bool) Tryz.kp44 Tryz.func44 rfl ?_
 intro σ
 simp -implicitDefEqProofs (maxSteps:=9^9) (disch:=omega) only[go_sem,simprocAttr]
 have hcl:∀x:Rng,x.av.cells=[.int .i64 x.lo,.int .i64 x.hi]:=fun _=>rfl
 have hse:∀x y:Rng,([x.lo,x.hi]==[y.lo,y.hi])=decide (x=y):=fun x y=>by
  rw[Bool.eq_iff_iff];cases x;cases y;simp
 have fin:∀b0:Bool,b0=decide (a.length=b.length)→∀(i:Nat) (c:Bool),i≤a.length→c=(decide (a.length=b.length)&&decide (a.take i=b.take i))→(c=false∨i=a.length)→c=decide (a=b):=by
  intro b0 hb0 i c hi hc h
  rcases h with rfl | rfl
  ·symm;rw[decide_eq_false_iff_not];rintro rfl;simp at hc
  ·rw[hc,List.take_length]
   by_cases hl:a.length=b.length
   ·rw[hl,List.take_length];simp[hl]
   ·have:¬a=b:=fun e=>hl (by rw[e])
    simp[hl,this]
 refine⟨fun hlen=>?_,fun hlen=>?_⟩
 ·have hlen':a.length=b.length:=by omega
  refine ARun.loopJ (Tryz.envOK (S:=S) 31 Tryz.ord44 fs0 fs0_ok) (α:=Nat×Bool) (fun p=>a.length-p.1) (fun p τ=>τ=σ∧p.1≤a.length∧p.2=(decide (a.length=b.length)&&decide (a.take p.1=b.take p.1))) (fun p=>[(5,.bool p.2),(6,.int .i64 p.1)]) (0,true) (by kernel_rfl) (by simp[upd,ins,subF,lookA]) ⟨rfl,Nat.zero_le _,by simp[hlen']⟩ ?_
  rintro⟨i,c⟩ τ ⟨rfl,hi,hc⟩ ih
  simp only at hi hc ih
  have hfin:=fin _ rfl i c hi hc
  cases c
  ·simp -implicitDefEqProofs (maxSteps:=9^9) (disch:=omega) only[go_sem,simprocAttr]
   simpa using hfin
  ·by_cases hlt:i<a.length
   ·simp -implicitDefEqProofs (maxSteps:=9^9) (disch:=omega) only[go_sem,simprocAttr,hcl]
    have hib:i<b.length:=by omega
    have ta:=List.take_succ_eq_append_getElem hlt
    have tb:=List.take_succ_eq_append_getElem hib
    have hx:([a[i].lo,a[i].hi]=[b[i].lo,b[i].hi])=(a[i]=b[i]):=by
     have:=hse a[i] b[i]
     rw[Bool.eq_iff_iff] at this
     simpa using this
    have htk:a.take i=b.take i:=by simpa[hlen'] using hc
    rw[hx]
    refine⟨fun h=>(ih (i+1,true) _ (by simp only;omega) ⟨rfl,by simp only;omega,?_⟩).castS rfl (by simp[upd,ins,subF,lookA]),fun h=>(ih (i+1,false) _ (by simp only;omega) ⟨rfl,by simp only;omega,?_⟩).castS rfl (by simp[upd,ins,subF,lookA])⟩
    ·have:a.take (i+1)=b.take (i+1):=by rw[ta,tb,htk,h]
     simp[this,hlen']
    ·have:¬a.take (i+1)=b.take (i+1):=fun e2=>by
      rw[ta,tb,htk] at e2
      exact h (by simpa only[List.append_cancel_left_eq,List.cons.injEq,and_true] using e2)
     simp[this]
   ·have:i=a.length:=by omega
    simp -implicitDefEqProofs (maxSteps:=9^9) (disch:=omega) only[go_sem,simprocAttr]
    simpa[this] using hfin
 ·have hlen':¬a.length=b.length:=by omega
  refine ARun.loopJ (Tryz.envOK (S:=S) 31 Tryz.ord44 fs0 fs0_ok) (α:=Nat×Bool) (fun p=>a.length-p.1) (fun p τ=>τ=σ∧p.1≤a.length∧p.2=false) (fun p=>[(5,.bool p.2),(6,.int .i64 p.1)]) (0,false) (by kernel_rfl) (by simp[upd,ins,subF,lookA]) ⟨rfl,Nat.zero_le _,rfl⟩ ?_
  rintro⟨i,c⟩ τ ⟨rfl,hi,hc⟩ ih
  simp only at hi hc ih
  subst hc
  simp -implicitDefEqProofs (maxSteps:=9^9) (disch:=omega) only[go_sem,simprocAttr]
  have:¬a=b:=fun e=>hlen' (by rw[e])
  simp[this]
def sameRanges_s:=spec2 tRngs tRngs fun a b=>if a.length≤4294967296∧b.length≤4294967296 then some (.bool (decide (a=b))) else none
theorem sameRanges_ok:∀xs v,sameRanges_s xs=some v→PureV S 44 xs v:=
 spec2_ok fun a b v h=>by have h:=someIf h;rw[← h.2];exact sameRanges_p a b h.1.1 h.1.2
def fs14(f:FuncId)(xs:List AV):Option AV:=if f=143 then ranges_s xs else if f=44 then sameRanges_s xs else fs13 f xs
theorem fs14_ok{S:MC Tryz.prog}:∀f xs v,fs14 f xs=some v→PureV S f xs v:=by
 intro f xs v h
 unfold fs14 at h
 split at h
 ·rename_i e;subst e;exact ranges_ok _ _ h
 split at h
 ·rename_i e;subst e;exact sameRanges_ok _ _ h
 exact fs13_ok _ _ _ h
attribute [go_sem] fs14 ranges_s sameRanges_s
theorem newPot_c(l:List Int)(tk:Tok)(hl:l.length≤4294967296)(σ:List AObj)(Q:AV→List AObj→Prop)(h:∀s junk,Q (.ptr σ.length 0) (σ++(.cells [.int .u64 s]::junk))):ACalls S 19 [.list tk 1 (l.map (.int .i64))] σ Q:=by
 refine AcE (Tryz.envOK (S:=S) 41 Tryz.ord19 fs0 fs0_ok) Tryz.kp19 Tryz.func19 rfl ?_
 simp -implicitDefEqProofs (maxSteps:=9^9) (disch:=omega) only[go_sem,simprocAttr]
 refine ARun.forJ (Tryz.envOK (S:=S) 41 Tryz.ord19 fs0 fs0_ok) l.length (fun i τ=>∃s j,τ=σ++(.cells [.int .u64 s]::j)) (fun i=>[(4,.int .i64 i)]) (by kernel_rfl) (by simp[upd,ins,subF,lookA]) ⟨_,[],rfl⟩ ?_ ?_
 ·rintro i τ hi ⟨s,j,rfl⟩ ih
  simp -implicitDefEqProofs (maxSteps:=9^9) (disch:=omega) only[go_sem,simprocAttr]
  exact(ih _ ⟨_,_,rfl⟩).castS rfl (by simp[upd,ins,subF,lookA])
 ·rintro τ ⟨s,j,rfl⟩
  simp -implicitDefEqProofs (maxSteps:=9^9) (disch:=omega) only[go_sem,simprocAttr]
  exact h _ _
end Go.Proofs
