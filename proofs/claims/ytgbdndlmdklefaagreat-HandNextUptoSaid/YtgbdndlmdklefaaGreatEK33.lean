/- Texts of a proof: lemmas. -/
import Derived.Test.YtgbdndlmdklefaaGreatEK23
import Derived.Test.YtgbdndlmdklefaaGreatEK31
import Derived.Test.YtgbdndlmdklefaaGreatEK32
set_option linter.unusedSimpArgs false
set_option linter.unusedVariables false
set_option maxRecDepth 100000
set_option maxHeartbeats 40000000
namespace Go.Proofs
open Go Go.Mu
variable {S:MC Tryz.prog}
def withS(r:Rd)(c:Int):Rd:=⟨r.kind,r.a,r.b,r.sec,⟨c,c⟩⟩
def cLo(n sl:Int):Int:=mx 0 (n/100-sl-1)
def cHi(n sl:Int):Int:=mn 25000 (n/100+sl+2)
def outAt(r:Rd)(sl:Int)(t:List Int)(i:Nat):List Int:=((List.range i).map fun k:Nat=>cLo (tg t r.a*r.sec) sl+k).filter fun c=>isR (withS r c) sl t
def showsL(r:Rd)(sl:Int)(t:List Int):List Int:=
 if r.kind=1 then outAt r sl t (cHi (tg t r.a*r.sec) sl-cLo (tg t r.a*r.sec) sl+1).toNat
 else if r.kind=2 then[dist (tg t r.a) (tg t r.b)*r.sec/100] else[if isR r sl t then 1 else 0]
theorem outAt_succ{r:Rd}{sl:Int}{t:List Int}{i:Nat}:outAt r sl t (i+1)=outAt r sl t i++(if isR (withS r (cLo (tg t r.a*r.sec) sl+i)) sl t then[cLo (tg t r.a*r.sec) sl+i] else[]):=by
 simp only[outAt,List.range_succ,List.map_append,List.filter_append,List.map_cons,List.map_nil,List.filter_cons,List.filter_nil]
theorem outAt_len{r:Rd}{sl:Int}{t:List Int}{i:Nat}:(outAt r sl t i).length≤i:=by
 unfold outAt
 exact Nat.le_trans (List.length_filter_le _ _) (by simp)
theorem shows1_p(a b s x y sl:Int)(t:List Int)(hr:okR ⟨1,a,b,s,⟨x,y⟩⟩)(hsl:0≤sl∧sl≤3)(ht:t.length=3)(hs:small t):PureV S 208 [rdv ⟨1,a,b,s,⟨x,y⟩⟩ sl,tav t] (tIs.av (showsL ⟨1,a,b,s,⟨x,y⟩⟩ sl t)):=by
 refine PvE (Tryz.envOK (S:=S) 76 Tryz.ord208 fs5 fs5_ok) (Plain.ints) Tryz.kp208 Tryz.func208 rfl ?_
 intro σ
 simp only[rdv,tav,if_true]
 obtain⟨ha,hb,hsec,hx,hy⟩:=hr.2
 simp only at ha hb hsec hx hy
 have hn:=mul_le (small_tg hs a) hsec
 obtain⟨q,hq⟩:∃q,(tg t a*s).tdiv 100=q:=⟨_,rfl⟩
 have hq2:q=tg t a*s/100:=by rw[← hq];exact Int.tdiv_eq_ediv_of_nonneg hn.1
 obtain⟨lo,hlo⟩:∃lo,(if 0<q-sl-1 then q-sl-1 else 0)=lo:=⟨_,rfl⟩
 obtain⟨hi,hhi⟩:∃hi,(if q+sl+2<25000 then q+sl+2 else 25000)=hi:=⟨_,rfl⟩
 have elo:cLo (tg t a*s) sl=lo:=by rw[← hlo,hq2];rfl
 have ehi:cHi (tg t a*s) sl=hi:=by rw[← hhi,hq2];rfl
 have blo:0≤lo∧lo≤300000:=by rw[← hlo];split<;> omega
 have bhi:0≤hi∧hi≤25000:=by rw[← hhi];split<;> omega
 simp -implicitDefEqProofs (maxSteps:=9^9) (disch:=omega) only[go_sem,simprocAttr,hq,hlo,tC_dec]
 refine ARun.ghost 7 1 (sz0:=0) rfl (by simp[lookA]) ?_
 simp only[ins,↓reduceIte,List.append_assoc,List.cons_append,List.nil_append,List.length_append,List.length_cons,List.length_nil,Nat.zero_add,Nat.reduceEqDiff,Nat.reduceAdd]
 refine ARun.forJ (Tryz.envOK (S:=S) 76 Tryz.ord208 fs5 fs5_ok) (hi-lo+1).toNat (fun i σ'=>∃x y j,σ'=σ++(.cells (t.map (AV.int .i64)):: .cells [.int .i64 1,.int .i64 a,.int .i64 b,.int .i64 s,.int .i64 x,.int .i64 y,.int .i64 sl]:: .tail (outAt ⟨1,a,b,s,⟨x,y⟩⟩ sl t i).length 1::j)) (fun i=>[(7,.list (.own (σ.length+2)) 1 ((outAt ⟨1,a,b,s,⟨x,y⟩⟩ sl t i).map (AV.int .i64))),(8,.int .i64 (lo+i))]) (by kernel_rfl) (by simp[upd,ins,subF,lookA,outAt]) ⟨x,y,[],by simp[outAt]⟩ ?_ ?_
 ·rintro i σ' hi' ⟨x',y',j,rfl⟩ ih
  have hokc:okR ⟨1,a,b,s,⟨lo+i,lo+i⟩⟩:=⟨hr.1,ha,hb,hsec,by simp only;omega,by simp only;omega⟩
  have hsu:=outAt_succ (r:=⟨1,a,b,s,⟨x,y⟩⟩) (sl:=sl) (t:=t) (i:=i)
  simp only[elo,withS] at hsu
  have hol:=outAt_len (r:=⟨1,a,b,s,⟨x,y⟩⟩) (sl:=sl) (t:=t) (i:=i)
  have hE:∀x' y' i,outAt ⟨1,a,b,s,⟨x',y'⟩⟩ sl t i=outAt ⟨1,a,b,s,⟨x,y⟩⟩ sl t i:=fun _ _ _=>rfl
  simp only[hE]
  cases hb2:isR ⟨1,a,b,s,⟨lo+i,lo+i⟩⟩ sl t
  ·rw[hb2] at hsu
   simp -implicitDefEqProofs (maxSteps:=9^9) (disch:=omega) only[go_sem,simprocAttr,hq,hlo,hhi,hokc,hs,hb2,tC_dec,decC]
   refine(ih _ ⟨lo+i,lo+i,j,?_⟩).castS rfl (by simp[upd,ins,subF,lookA,hsu,Int.add_assoc])
   simp[hE,hsu]
  ·rw[hb2] at hsu
   simp -implicitDefEqProofs (maxSteps:=9^9) (disch:=omega) only[go_sem,simprocAttr,hq,hlo,hhi,hokc,hs,hb2,tC_dec,decC]
   refine(ih _ ⟨lo+i,lo+i,j,?_⟩).castS rfl (by simp[upd,ins,subF,lookA,hsu,Int.add_assoc])
   simp[hE,hsu]
 ·rintro σ' ⟨x',y',j,rfl⟩
  simp -implicitDefEqProofs (maxSteps:=9^9) (disch:=omega) only[go_sem,simprocAttr,hq,hlo,hhi]
  exact⟨by simp[showsL,elo,ehi],.inl rfl,.inl rfl⟩
theorem shows2_p(r:Rd)(sl:Int)(t:List Int)(hr:okR r)(hk:r.kind=2)(ht:t.length=3)(hs:small t):PureV S 208 [.iface 254 r.av,tav t] (tIs.av (showsL r sl t)):=by
 refine PvE (Tryz.envOK (S:=S) 76 Tryz.ord208 fs5 fs5_ok) (Plain.ints) Tryz.kp208 Tryz.func208 rfl ?_
 intro σ
 obtain⟨k,a,b,s,x,y⟩:=r
 simp only at hk
 subst hk
 simp only[Rd.av,tav]
 obtain⟨ha,hb,hsec,hx,hy⟩:=hr.2
 simp only at ha hb hsec hx hy
 have hn:=mul_le (dist_le (small_tg hs a) (small_tg hs b)) hsec
 have hq:(dist (tg t a) (tg t b)*s).tdiv 100=dist (tg t a) (tg t b)*s/100:=Int.tdiv_eq_ediv_of_nonneg hn.1
 simp -implicitDefEqProofs (maxSteps:=9^9) (disch:=omega) only[go_sem,simprocAttr,hs,hq]
 exact⟨by simp[showsL],.inl rfl,.inl rfl⟩
theorem shows3_p(r:Rd)(sl:Int)(t:List Int)(hr:okR r)(hsl:0≤sl∧sl≤3)(hk:r.kind=3)(ht:t.length=3)(hs:small t):PureV S 208 [.iface 255 r.av,tav t] (tIs.av (showsL r sl t)):=by
 refine PvE (Tryz.envOK (S:=S) 76 Tryz.ord208 fs5 fs5_ok) (Plain.ints) Tryz.kp208 Tryz.func208 rfl ?_
 intro σ
 have hinv:=@invoke_is S 76 Tryz.ord208 fs5 (fun _=>⟨rfl,rfl,rfl⟩) r sl t
 have hrd:rdv r sl= .iface 255 r.av:=by simp[rdv,hk]
 rw[hrd] at hinv
 simp only[tav]
 cases hb:isR r sl t
 ·simp -implicitDefEqProofs (maxSteps:=9^9) (disch:=omega) only[go_sem,simprocAttr,hinv hr hsl ht hs,hb]
  exact⟨by simp[showsL,hk,hb],.inl rfl,.inl rfl⟩
 ·simp -implicitDefEqProofs (maxSteps:=9^9) (disch:=omega) only[go_sem,simprocAttr,hinv hr hsl ht hs,hb]
  exact⟨by simp[showsL,hk,hb],.inl rfl,.inl rfl⟩
theorem shows_p(r:Rd)(sl:Int)(t:List Int)(hr:okR r)(hsl:0≤sl∧sl≤3)(ht:t.length=3)(hs:small t):PureV S 208 [rdv r sl,tav t] (tIs.av (showsL r sl t)):=by
 have hk:=hr.1
 rcases(by omega:r.kind=1∨r.kind=2∨r.kind=3) with k | k | k
 ·obtain⟨rk,a,b,s,x,y⟩:=r
  simp only at k
  subst k
  exact shows1_p a b s x y sl t hr hsl ht hs
 ·have:=shows2_p (S:=S) r sl t hr k ht hs
  simpa[rdv,k] using this
 ·have:=shows3_p (S:=S) r sl t hr hsl k ht hs
  simpa[rdv,k] using this
theorem showsL_len{r:Rd}{sl:Int}{t:List Int}:(showsL r sl t).length≤30001:=by
 unfold showsL
 split
 ·refine Nat.le_trans outAt_len ?_
  have h1:0≤cLo (tg t r.a*r.sec) sl:=by unfold cLo mx;split<;> omega
  have h2:cHi (tg t r.a*r.sec) sl≤25000:=by unfold cHi mn;split<;> omega
  omega
 ·split<;> simp
end Go.Proofs
namespace Go.Proofs
open Go Go.Mu
end Go.Proofs
namespace Go.Proofs
open Go Go.Mu
variable {S:MC Tryz.prog}
def pushO(t:List Int)(m:List (Int×List (List Int)))(k:Int):List (Int×List (List Int)):=mset m k ((mget m k).getD []++[t])
def outS(r:Rd)(sl:Int)(m:List (Int×List (List Int)))(t:List Int):List (Int×List (List Int)):=(showsL r sl t).foldl (pushO t) m
def outcomesL(r:Rd)(sl:Int)(l:List (List Int)):List (Int×List (List Int)):=l.foldl (outS r sl) []
abbrev MT:=List (Int×(Nat×List (List Int)))
def mapT(m:MT):List (AV×AV):=m.map fun p=>(AV.int .i64 p.1,AV.list (.own p.2.1) 3 (p.2.2.map tav))
def strip(m:MT):List (Int×List (List Int)):=m.map fun p=>(p.1,p.2.2)
theorem fIdx_strip{k:Int}:∀{m:MT} {i:Nat},fIdx k (strip m) i=(fIdx k m i).map fun q=>(q.1,q.2.2)
 | [],_=>rfl
 | (k',v)::m,i=>by
  simp only[strip,List.map_cons,fIdx]
  split
  ·rfl
  ·exact fIdx_strip (m:=m)
theorem mget_strip{k:Int}{m:MT}:mget (strip m) k=(mget m k).map (·.2):=by
 unfold mget;rw[fIdx_strip];cases fIdx k m 0<;> rfl
theorem strip_mset{k:Int}{m:MT}{v:Nat×List (List Int)}:strip (mset m k v)=mset (strip m) k v.2:=by
 unfold mset;rw[fIdx_strip]
 cases fIdx k m 0 with
 | none=>simp[strip]
 | some q=>simp[strip,List.map_set]
theorem lookT_none{m:MT}{k:Int}{σ:List AObj}(h:mget m k=none):lookR false (.list .full 0 []) σ (findA (.int .i64 k) (mapT m) 0)=some (.list .full 0 [],σ):=by
 have:=lookR_map (f:=fun v:Nat×List (List Int)=>AV.list (.own v.1) 3 (v.2.map tav)) (m:=m) (k:=k) (ok:=false) (z:= .list .full 0 []) (σ:=σ)
 unfold mapT;rw[this,h];rfl
theorem lookT_some{m:MT}{k:Int}{σ:List AObj}{v:Nat×List (List Int)}(h:mget m k=some v):lookR false (.list .full 0 []) σ (findA (.int .i64 k) (mapT m) 0)=some (.list (.own v.1) 3 (v.2.map tav),σ):=by
 have:=lookR_map (f:=fun v:Nat×List (List Int)=>AV.list (.own v.1) 3 (v.2.map tav)) (m:=m) (k:=k) (ok:=false) (z:= .list .full 0 []) (σ:=σ)
 unfold mapT;rw[this,h];rfl
theorem updT{m:MT}{k:Int}{r id:Nat}{ts:List (List Int)}{xs:List AV}{σ:List AObj}(h:xs=ts.map tav):updR r (mapT m) (.int .i64 k) (.list (.own id) 3 xs) σ (findA (.int .i64 k) (mapT m) 0)=some (.tup [],hset σ r (.map (mapT (mset m k (id,ts))))):=by
 subst h
 exact updR_map (f:=fun v:Nat×List (List Int)=>AV.list (.own v.1) 3 (v.2.map tav)) (v:=(id,ts))
structure OutOK(B:Nat)(σ:List AObj)(m:MT)(τ:List AObj):Prop where
 len:σ.length<τ.length
 old:∀k,k<σ.length→hget τ k=hget σ k
 map:hget τ σ.length=some (.map (mapT m))
 tl:∀p∈m,σ.length<p.2.1∧hget τ p.2.1=some (.tail p.2.2.length 3)∧p.2.2.length≤B
 nd:(m.map fun p=>p.2.1).Nodup
theorem OutOK.lt{B:Nat}{σ:List AObj}{m:MT}{τ:List AObj}(h:OutOK B σ m τ){p:Int×(Nat×List (List Int))}(hp:p∈m):p.2.1<τ.length:=hget_lt (h.tl p hp).2.1
theorem OutOK.app{B:Nat}{σ:List AObj}{m:MT}{τ l:List AObj}(h:OutOK B σ m τ):OutOK B σ m (τ++l):=
 ⟨by have:=h.len;simp;omega,fun k hk=>by rw[hget_app (by have:=h.len;omega)];exact h.old k hk,by rw[hget_app h.len];exact h.map,fun p hp=>⟨(h.tl p hp).1,by rw[hget_app (h.lt hp)];exact(h.tl p hp).2.1,(h.tl p hp).2.2⟩,h.nd⟩
theorem OutOK.mono{B C:Nat}{σ:List AObj}{m:MT}{τ:List AObj}(h:OutOK B σ m τ)(hc:B≤C):OutOK C σ m τ:=⟨h.len,h.old,h.map,fun p hp=>⟨(h.tl p hp).1,(h.tl p hp).2.1,Nat.le_trans (h.tl p hp).2.2 hc⟩,h.nd⟩
theorem OutOK.new{B:Nat}(hB:1≤B){σ:List AObj}{m:MT}{τ:List AObj}(h:OutOK B σ m τ){k:Int}{t:List Int}(hg:mget m k=none):OutOK B σ (mset m k (τ.length,[t])) (hset (τ++[.tail 1 3]) σ.length (.map (mapT (mset m k (τ.length,[t]))))):=by
 have hf:fIdx k m 0=none:=by unfold mget at hg;cases hx:fIdx k m 0 with | none=>rfl | some q=>rw[hx] at hg;cases hg
 have hm:mset m k (τ.length,[t])=m++[(k,(τ.length,[t]))]:=by unfold mset;rw[hf]
 have hl:=h.len
 refine⟨by rw[length_hset];simp;omega,fun q hq=>by rw[hget_ne (by omega),hget_app (by omega)];exact h.old q hq,hget_set (by rw[hget_app hl];exact h.map) _,fun p hp=>?_,?_⟩
 ·rw[hm] at hp
  rcases List.mem_append.1 hp with hp | hp
  ·have h2:=h.tl p hp
   have h3:=h.lt hp
   exact⟨h2.1,by rw[hget_ne (by omega),hget_app h3];exact h2.2.1,h2.2.2⟩
  ·simp at hp;subst hp
   exact⟨hl,by rw[hget_ne (by simp only;omega)];exact hget_at0,hB⟩
 ·rw[hm,List.map_append,List.nodup_append]
  refine⟨h.nd,by simp,fun a ha b hb=>?_⟩
  simp at hb;subst hb
  obtain⟨p,hp,rfl⟩:=List.mem_map.1 ha
  have:=h.lt hp
  omega
theorem OutOK.more{B:Nat}{σ:List AObj}{m:MT}{τ:List AObj}(h:OutOK B σ m τ){k:Int}{t:List Int}{id:Nat}{ts:List (List Int)}(hg:mget m k=some (id,ts)) :
  OutOK (B+1) σ (mset m k (id,ts++[t])) (hset (hset τ id (.tail (ts.length+1) 3)) σ.length (.map (mapT (mset m k (id,ts++[t]))))):=by
 obtain⟨j,hf⟩:∃j,fIdx k m 0=some (j,(id,ts)):=by
  unfold mget at hg
  cases hx:fIdx k m 0 with
  | none=>rw[hx] at hg;cases hg
  | some q=>obtain⟨j,v⟩:=q;rw[hx] at hg;simp at hg;subst hg;exact⟨j,rfl⟩
 have hm:mset m k (id,ts++[t])=m.set j (k,(id,ts++[t])):=by unfold mset;rw[hf]
 have hj:=(fIdx_get hf).2
 simp only[Nat.sub_zero] at hj
 have hl:=h.len
 have hmem:(k,(id,ts))∈m:=List.mem_of_getElem? hj
 obtain⟨i1,i2,i3⟩:=h.tl _ hmem
 simp only at i1 i2 i3
 obtain⟨hjl,hje⟩:=List.getElem?_eq_some_iff.1 hj
 refine⟨by simp only[length_hset];exact hl,fun q hq=>by rw[hget_ne (by omega),hget_ne (by omega)];exact h.old q hq,hget_set (by rw[hget_ne (by omega)];exact h.map) _,fun p hp=>?_,?_⟩
 ·rw[hm] at hp
  obtain⟨i,hi,rfl⟩:=List.mem_iff_getElem.1 hp
  rw[List.getElem_set]
  by_cases e:j=i
  ·rw[if_pos e]
   exact⟨i1,by simp only;rw[hget_ne (by omega)];simpa using hget_set i2 _,by simp;omega⟩
  ·rw[if_neg e]
   have hi':i<m.length:=by simpa using hi
   have h2:=h.tl _ (List.getElem_mem hi')
   have hne:m[i].2.1≠id:=fun e2=>by
    have:=h.nd
    rw[List.nodup_iff_pairwise_ne,List.pairwise_iff_getElem] at this
    rcases Nat.lt_or_gt_of_ne e with h4 | h4
    ·have:=this j i (by simpa using hjl) (by simpa using hi') h4
     simp[hje] at this;exact this e2.symm
    ·have:=this i j (by simpa using hi') (by simpa using hjl) h4
     simp[hje] at this;exact this e2
   exact⟨h2.1,by rw[hget_ne (by omega),hget_ne (fun e2=>hne e2.symm)];exact h2.2.1,by omega⟩
 ·have:(mset m k (id,ts++[t])).map (fun p=>p.2.1)=m.map fun p=>p.2.1:=by
   rw[hm,List.map_set]
   apply List.ext_getElem?
   intro i
   rw[List.getElem?_set]
   by_cases e:j=i
   ·subst e;simp[hjl,hje]
   ·simp[e]
  rw[this];exact h.nd
theorem outcomes_c(r:Rd)(sl:Int)(l:List (List Int))(hr:okR r)(hsl:0≤sl∧sl≤3)(hl:l.length≤10000)(h3:∀t∈l,t.length=3∧small t)(σ:List AObj)(Q:AV→List AObj→Prop)(h:∀τ m,OutOK 300010000 σ m τ→strip m=outcomesL r sl l→Q (.map σ.length) τ) :
  ACalls S 170 [tavs l,rdv r sl] σ Q:=by
 refine AcE (Tryz.envOK (S:=S) 36 (fun _=>([],[])) fs5 fs5_ok) Tryz.kp170 Tryz.func170 rfl ?_
 simp only[tavs]
 simp -implicitDefEqProofs (maxSteps:=9^9) (disch:=omega) only[go_sem,simprocAttr,tav]
 refine ARun.forJ (Tryz.envOK (S:=S) 36 (fun _=>([],[])) fs5 fs5_ok) l.length (fun i τ=>∃m,OutOK (i*30001) σ m τ∧strip m=(l.take i).foldl (outS r sl) []) (fun i=>[(13,.int .i64 i)]) (by kernel_rfl) (by simp[upd,ins,subF,lookA]) ⟨[],⟨by simp,fun k hk=>hget_app hk,hget_at0,by simp,by simp⟩,rfl⟩ ?_ ?_
 ·rintro i τ hi ⟨m,hO,hm⟩ ih
  have hmi:l[i]∈l:=List.getElem_mem hi
  obtain⟨h3i,hsi⟩:=h3 _ hmi
  rw[foldl_take _ _ _ _ hi,← hm] at ih
  simp -implicitDefEqProofs (maxSteps:=9^9) (disch:=omega) only[go_sem,simprocAttr,tav]
  refine shows_p r sl l[i] hr hsl h3i hsi _ _ ?_
  simp only[tIs]
  have hsl2:=showsL_len (r:=r) (sl:=sl) (t:=l[i])
  simp -implicitDefEqProofs (maxSteps:=9^9) (disch:=omega) only[go_sem,simprocAttr,tav]
  refine ARun.forJ (Tryz.envOK (S:=S) 36 (fun _=>([],[])) fs5 fs5_ok) (showsL r sl l[i]).length (fun i2 τ2=>∃m2,OutOK (i*30001+i2) σ m2 τ2∧strip m2=((showsL r sl l[i]).take i2).foldl (pushO l[i]) (strip m)∧hget τ2 τ.length=some (.cells (l[i].map (AV.int .i64)))) (fun i2=>[(21,.int .i64 i2)]) (by kernel_rfl) (by simp[upd,ins,subF,lookA]) ⟨m,hO.app,rfl,hget_at0⟩ ?_ ?_
  ·rintro i2 τ2 hi2 ⟨m2,hO2,hm2,hb⟩ ih2
   rw[foldl_take _ _ _ _ hi2,← hm2] at ih2
   generalize hkk:(showsL r sl l[i])[i2]=kk at ih2
   have hmap:=hO2.map
   cases hg:mget m2 kk with
   | none=>
    have hmap':∀l,hget (τ2++l) σ.length=some (.map (mapT m2)):=fun l=>by rw[hget_app hO2.len];exact hmap
    have hu:∀r id σ,updR r (mapT m2) (.int .i64 kk) (.list (.own id) 3 [.agg (l[i].map (AV.int .i64))]) σ (findA (.int .i64 kk) (mapT m2) 0)=some (.tup [],hset σ r (.map (mapT (mset m2 kk (id,[l[i]]))))):=fun _ _ _=>updT rfl
    simp -implicitDefEqProofs (maxSteps:=9^9) (disch:=omega) only[go_sem,simprocAttr,tav,hkk,hmap,hmap',hb,lookT_none hg,hu]
    have hbl:=hget_lt hb
    have hτ:σ.length<τ.length:=hO.len
    refine(ih2 _ ⟨_,(hO2.mono (by omega)).new (by omega) hg,?_,?_⟩).castS rfl (by simp[upd,ins,subF,lookA])
    ·rw[strip_mset,pushO,mget_strip,hg];rfl
    ·rw[hget_ne (by omega),hget_app hbl];exact hb
   | some v=>
    obtain⟨id,ts⟩:=v
    obtain⟨t1,t2,t3⟩:=hO2.tl _ (mget_mem hg)
    simp only at t1 t2 t3
    have hu:∀r id σ,updR r (mapT m2) (.int .i64 kk) (.list (.own id) 3 (ts.map tav++[.agg (l[i].map (AV.int .i64))])) σ (findA (.int .i64 kk) (mapT m2) 0)=some (.tup [],hset σ r (.map (mapT (mset m2 kk (id,ts++[l[i]]))))):=fun _ _ _=>updT (by simp[tav])
    have hmap':∀o,hget (hset τ2 id o) σ.length=some (.map (mapT m2)):=fun o=>by rw[hget_ne (by omega)];exact hmap
    simp -implicitDefEqProofs (maxSteps:=9^9) (disch:=omega) only[go_sem,simprocAttr,tav,hkk,hmap,hmap',hb,lookT_some hg,hu,t2]
    have hbl:=hget_lt hb
    have hτ:σ.length<τ.length:=hO.len
    have hne:id≠τ.length:=fun e=>by rw[e] at t2;rw[hb] at t2;cases t2
    refine(ih2 _ ⟨_,(hO2.more hg).mono (by omega),?_,?_⟩).castS rfl (by simp[upd,ins,subF,lookA])
    ·rw[strip_mset,pushO,mget_strip,hg];rfl
    ·rw[hget_ne (by omega),hget_ne hne];exact hb
  ·rintro τ2 ⟨m2,hO2,hm2,hb⟩
   rw[List.take_length] at hm2
   simp -implicitDefEqProofs (maxSteps:=9^9) (disch:=omega) only[go_sem,simprocAttr,tav]
   refine(ih τ2 ⟨m2,hO2.mono (by rw[Nat.succ_mul];omega),hm2⟩).castS rfl (by simp[upd,ins,subF,lookA])
 ·rintro τ ⟨m,hO,hm⟩
  rw[List.take_length] at hm
  simp -implicitDefEqProofs (maxSteps:=9^9) (disch:=omega) only[go_sem,simprocAttr,tav]
  exact h τ m (hO.mono (by omega)) hm
end Go.Proofs
namespace Go.Proofs
open Go Go.Mu
theorem outcomes_sub{r:Rd}{sl:Int}{l:List (List Int)}:∀p∈outcomesL r sl l,p.2≠[]∧∀t∈p.2,t∈l:=by
 have key:∀(l0:List (List Int)) (m:List (Int×List (List Int))),(∀p∈m,p.2≠[]∧∀t∈p.2,t∈l)→(∀t∈l0,t∈l)→∀p∈l0.foldl (outS r sl) m,p.2≠[]∧∀t∈p.2,t∈l:=by
  intro l0
  induction l0 with
  | nil=>intro m h _;exact h
  | cons t l0 ih=>
   intro m h ht
   refine ih (outS r sl m t) ?_ (fun u hu=>ht u (by simp[hu]))
   have htl:=ht t (by simp)
   unfold outS
   generalize showsL r sl t=ks
   clear ih
   induction ks generalizing m with
   | nil=>exact h
   | cons k ks ih=>
    refine ih (m:=pushO t m k) fun p hp=>?_
    rcases mset_mem hp with rfl | hp
    ·refine⟨by simp,fun u hu=>?_⟩
     rcases List.mem_append.1 hu with hu | hu
     ·cases hg:mget m k with
      | none=>rw[hg] at hu;simp at hu
      | some v=>rw[hg] at hu;exact(h _ (mget_mem hg)).2 u hu
     ·simp at hu;subst hu;exact htl
    ·exact h p hp
 exact key l [] (by simp) (fun t ht=>ht)
def gateS(sl:Int)(l:List (List Int))(x width s:Int):Bool:=(outcomesL ⟨1,x,0,s,⟨0,0⟩⟩ sl l).all fun p=>decide ((spanL (fun t=>tg t x) p.2).hi- (spanL (fun t=>tg t x) p.2).lo≤width)
def gateW(m x width:Int):Int:=if 0≤x∧x≤m-1 then(if width<0 then 1 else 0) else 3
def gateL(e:Ear)(x width:Int):Int×Int:=
 if(askL e (gateW e.tones.length x width)).2=0 then
  (match (List.range 20).find? (fun k:Nat=>gateS e.slack (truthsL e) x width (k+1)) with
  | some k=>((k:Int)+1,0)
  | none=>(0,11))
 else(0,(askL e (gateW e.tones.length x width)).2)
theorem find_range{f:Nat→Bool}{i n:Nat}(hi:i<n)(h:∀k,k<i→f k=false)(hf:f i=true):(List.range n).find? f=some i:=by
 rw[List.find?_range_eq_some]
 exact⟨hf,by simpa using hi,fun j hj=>by simp[h j hj]⟩
theorem find_none{f:Nat→Bool}{n:Nat}(h:∀k,k<n→f k=false):(List.range n).find? f=none:=by
 rw[List.find?_eq_none]
 intro x hx
 simp at hx
 simp[h x hx]
theorem spanL_bound{l:List (List Int)}(h:∀t∈l,small t)(hl:l≠[])(x:Int):0≤(spanL (fun t=>tg t x) l).lo∧(spanL (fun t=>tg t x) l).lo≤1000000∧0≤(spanL (fun t=>tg t x) l).hi∧(spanL (fun t=>tg t x) l).hi≤1000000:=by
 have key:∀(l:List (List Int)) (y:Rng),(∀t∈l,small t)→(0≤y.lo∧y.lo≤1000000∧0≤y.hi∧y.hi≤1000000)→(0≤(l.foldl (spanS fun t=>tg t x) y).lo∧(l.foldl (spanS fun t=>tg t x) y).lo≤1000000∧0≤(l.foldl (spanS fun t=>tg t x) y).hi∧(l.foldl (spanS fun t=>tg t x) y).hi≤1000000):=by
  intro l
  induction l with
  | nil=>intro y _ hy;exact hy
  | cons t l ih=>
   intro y ht hy
   refine ih _ (fun u hu=>ht u (by simp[hu])) ?_
   have:=small_tg (ht t (by simp)) x
   simp only[spanS,mn,mx]
   refine⟨?_,?_,?_,?_⟩<;> split<;> omega
 obtain⟨t,l,rfl⟩:∃t l',l=t::l':=by cases l with | nil=>exact absurd rfl hl | cons a b=>exact⟨a,b,rfl⟩
 have:=small_tg (h t (by simp)) x
 exact key _ _ h (by simp only[List.headD_cons];omega)
theorem ARun.loopJ{E:Env}(hE:EnvOK E){ro:Option Nat}{c:Code}{k:List Item}{kp:Nat→Bool}{tm sl:List (Nat×AV)}{σ:List AObj}{Q:Post}{α:Type}(m:α→Nat)(J:α→List AObj→Prop)(lv:α→List (Nat×AV))(x0:α)
  (hO:todoOK E (.code c:: .inLoop c::k)=true) (h0:subF (upd sl (lv x0)) sl) (hJ:J x0 σ)
  (hs:∀x τ,J x τ→(∀y τ',m y<m x→J y τ'→ARun E ro (.inLoop c::k) ⟨kp,[],upd sl (lv y)⟩ τ' Q)→ev E ro 100000 (.code c:: .inLoop c::k) ⟨kp,[],upd sl (lv x)⟩ τ Q):ARun E ro (.code (.loop c)::k) ⟨kp,tm,sl⟩ σ Q:=by
 have key:∀n x τ,m x=n→J x τ→ARun E ro (.code c:: .inLoop c::k) ⟨kp,[],upd sl (lv x)⟩ τ Q:=by
  intro n
  induction n using Nat.strongRecOn with
  | _ n ih=>
   intro x τ hm hj
   exact ev_sound hE hO (hs x τ hj fun y τ' hlt hy=> .inLoop (ih (m y) (by omega) y τ' rfl hy))
 exact .loop (ARun.sub (key _ x0 σ rfl hJ) h0)
theorem nextA_intro{X:AV→List AObj→Prop}{τ:List AObj}{r q c:Nat}{seen:List Nat}{es:List (AV×AV)}(hg:hget τ r=some (.iter (some q) c seen))(hq:hget τ q=some (.map es))(hc:c=es.length)
  (h1:∀i k v,es[i]? = some (k,v)→i∉seen→X (.tup [.bool true,k,v]) (hset τ r (.iter (some q) c (seen++[i])))) (h2:(∀i,i<es.length→i∈seen)→X (.tup [.bool false]) τ):nextA X τ (some (.ptr r 0)):=by
 unfold nextA
 simp only[hg,hq]
 exact⟨hc,h1,h2⟩
theorem nodup_lt:∀{n:Nat} {l:List Nat},l.Nodup→(∀i∈l,i<n)→l.length≤n
 | 0,l,_,hl=>by
  cases l with
  | nil=>simp
  | cons a l=>have:=hl a (by simp);omega
 | n+1,l,h,hl=>by
  by_cases hm:n∈l
  ·have h1:(l.erase n).length≤n:=nodup_lt (h.erase n) fun i hi=>by
    have h2:=hl i (List.mem_of_mem_erase hi)
    have h3:i≠n:=(List.Nodup.mem_erase_iff h).1 hi |>.1
    omega
   rw[List.length_erase_of_mem hm] at h1
   omega
  ·have:=nodup_lt h fun i hi=>by
    have h2:=hl i hi
    have h3:i≠n:=fun e=>hm (e▸hi)
    show i<n
    omega
   omega
end Go.Proofs
namespace Go.Proofs
open Go Go.Mu Go.Ins
variable {S:MC Tryz.prog}
theorem evOpsM_len0{E:Env}{all os:List Oper}{dst:Option Tmp}{op:Op}{type:TypeId}{pos:String}{after:Array Edge}{fr:Fr}{σ:List AObj}{Q:Fr→List AObj→Prop}:evOpsM E all 0 (⟨dst,op,type,pos,after,none⟩::os) fr σ Q=mlenA E fr σ op (evNext E all os dst fr Q):=by
 have e:wantA all fr none=some true:=rfl
 simp only[evOpsM,e,true_implies,Bool.true_eq_false,false_implies,and_true,forall_const]
attribute [go_sem] evOpsM_len0 evOpsM_plain nextN_some nextN_none mlenA_len mlenO_map mlenH_map
def mapX(l:List (List Int)):List (AV×AV):=l.map fun x=>(rtv x,.bool true)
theorem key4(a b c d e f g h:Int):keyEq (rtv [a,b,c,d]) (rtv [e,f,g,h])=some (decide ([a,b,c,d]=[e,f,g,h])):=by
 simp only[rtv,List.map_cons,List.map_nil,keyEq,intsA,Option.map_some,List.length_cons,List.length_nil,if_true,Option.some.injEq]
 rw[Bool.eq_iff_iff]
 simp
theorem len4{x:List Int}(h:x.length=4):∃a b c d,x=[a,b,c,d]:=by
 match x,h with
 | [a,b,c,d],_=>exact⟨a,b,c,d,rfl⟩
theorem keyX{x y:List Int}(hx:x.length=4)(hy:y.length=4):keyEq (rtv x) (rtv y)=some (decide (x=y)):=by
 obtain⟨a,b,c,d,rfl⟩:=len4 hx
 obtain⟨e,f,g,h,rfl⟩:=len4 hy
 exact key4 ..
theorem findX_none{x:List Int}(hx:x.length=4):∀{m:List (List Int)} {i:Nat},(∀y∈m,y.length=4)→x∉m→findA (rtv x) (mapX m) i=some none
 | [],i,_,_=>rfl
 | y::m,i,hm,h=>by
  simp only[mapX,List.map_cons,findA]
  rw[keyX hx (hm y (by simp)),decide_eq_false (fun e=>h (by simp[e]))]
  exact findX_none hx (fun z hz=>hm z (by simp[hz])) (fun hz=>h (by simp[hz]))
theorem findX_some{x:List Int}(hx:x.length=4):∀{m:List (List Int)} {i:Nat},(∀y∈m,y.length=4)→x∈m→∃j,m[j]? = some x∧findA (rtv x) (mapX m) i=some (some (i+j,.bool true))
 | [],i,_,h=>by simp at h
 | y::m,i,hm,h=>by
  by_cases e:x=y
  ·subst e
   refine⟨0,rfl,?_⟩
   simp only[mapX,List.map_cons,findA]
   rw[keyX hx hx,decide_eq_true rfl];rfl
  ·obtain⟨j,h1,h2⟩:=findX_some (i:=i+1) hx (fun z hz=>hm z (by simp[hz])) ((List.mem_cons.1 h).resolve_left e)
   refine⟨j+1,by simpa using h1,?_⟩
   simp only[mapX,List.map_cons,findA]
   rw[keyX hx (hm y (by simp)),decide_eq_false e]
   rw[show i+(j+1)=i+1+j by omega]
   exact h2
theorem updX{x:List Int}(hx:x.length=4){m:List (List Int)}(hm:∀y∈m,y.length=4){r:Nat}{σ:List AObj}:updR r (mapX m) (rtv x) (.bool true) σ (findA (rtv x) (mapX m) 0)=some (.tup [],hset σ r (.map (mapX (addX m x)))):=by
 by_cases h:x∈m
 ·obtain⟨j,h1,h2⟩:=findX_some (i:=0) hx hm h
  rw[h2,addX,if_pos h]
  have:(mapX m).set j (rtv x,.bool true)=mapX m:=by
   apply List.ext_getElem?
   intro k
   rw[List.getElem?_set]
   split
   ·rename_i e;subst e
    have hj:=List.getElem?_eq_some_iff.1 h1
    simp[mapX,hj.1,hj.2]
   ·rfl
  simp only[updR,Nat.zero_add,this]
 ·rw[findX_none hx hm h,addX,if_neg h]
  simp[updR,mapX]
theorem addXs_all{p:List Int→Prop}:∀{l m:List (List Int)},(∀y∈m,p y)→(∀y∈l,p y)→∀y∈l.foldl addX m,p y:=by
 intro l m hm hl y hy
 rcases addX_mem.1 hy with h | h
 ·exact hm y h
 ·exact hl y h
def foundS(r:Ros)(ds:List (List Int))(many n:Nat):List (List Int):=((List.range n).filter fun s=>popN s==many).flatMap (htruthsR r ds)
def foundR(r:Ros)(ds:List (List Int))(many:Nat):List (List Int):=foundS r ds many (2^r.hands.toNat)
def explF(r:Ros)(ds:List (List Int)):Nat→Nat→List (List Int)
 | 0,_=>[]
 | n+1,k=>if foundR r ds k=[] then explF r ds n (k+1) else(foundR r ds k).foldl addX []
def explR(r:Ros)(ds:List (List Int)):List (List Int):=explF r ds (r.hands.toNat+1) 0
theorem foundS_succ{r:Ros}{ds:List (List Int)}{many n:Nat}:foundS r ds many (n+1)=foundS r ds many n++if popN n=many then htruthsR r ds n else[]:=by
 unfold foundS
 rw[List.range_succ,List.filter_append,List.flatMap_append]
 by_cases h:popN n=many
 ·simp[h]
 ·simp[h]
theorem htruthsR_ok{r:Ros}(hr:r.Head){ds:List (List Int)}{s:Nat}{u:List Int}(hu:u∈htruthsR r ds s):OkX r u:=ratesR_ok hr (List.mem_filter.1 hu).1
theorem foundS_ok{r:Ros}(hr:r.Head){ds:List (List Int)}{many n:Nat}{u:List Int}(hu:u∈foundS r ds many n):OkX r u:=by
 obtain⟨s,_,hs⟩:=List.mem_flatMap.1 hu
 exact htruthsR_ok hr hs
theorem addX_nil{l:List (List Int)}:l.foldl addX []=[]↔l=[]:=by
 constructor
 ·intro h
  cases l with
  | nil=>rfl
  | cons x l=>
   have:x∈(x::l).foldl addX []:=addX_mem.2 (.inr (by simp))
   rw[h] at this;simp at this
 ·rintro rfl;rfl
theorem explF_ok{r:Ros}(hr:r.Head){ds:List (List Int)}:∀{n k:Nat} {u:List Int},u∈explF r ds n k→OkX r u
 | 0,k,u,h=>by simp[explF] at h
 | n+1,k,u,h=>by
  simp only[explF] at h
  split at h
  ·exact explF_ok hr h
  ·rcases addX_mem.1 h with h | h
   ·simp at h
   ·exact foundS_ok hr h
theorem explR_ok{r:Ros}(hr:r.Head){ds:List (List Int)}{u:List Int}(h:u∈explR r ds):OkX r u:=explF_ok hr h
theorem htruthsR_len{r:Ros}(hr:r.Head){ds:List (List Int)}{s:Nat}:(htruthsR r ds s).length≤14641:=Nat.le_trans (List.length_filter_le _ _) (ratesR_len hr s)
theorem foundS_len{r:Ros}(hr:r.Head){ds:List (List Int)}{many:Nat}:∀n,(foundS r ds many n).length≤n*14641
 | 0=>by simp[foundS]
 | n+1=>by
  rw[foundS_succ,List.length_append]
  have:=foundS_len hr (ds:=ds) (many:=many) n
  split
  ·have:=htruthsR_len hr (ds:=ds) (s:=n);omega
  ·simp;omega
theorem expl_c(r:Ros)(ds:List (List Int))(hr:Work r ds){σ:List AObj}{Q:AV→List AObj→Prop}(h:∀j,Q (.map (σ.length+1)) (σ++(.cells (r.wcells ds):: .map (mapX (explR r ds))::j))):ACalls S 136 [r.wav ds] σ Q:=by
 refine AcE (Tryz.envOK (S:=S) 44 (fun _=>([],[])) fs403 fs403_ok) Tryz.kp136 Tryz.func136 rfl ?_
 have hh:=hr.hands
 have hH:(r.hands.toNat:Int)=r.hands:=by omega
 have hw1:IntKind.i64.wrap (r.hands+1)=r.hands+1:=wrap64 (by omega) (by omega)
 simp only[Ros.wav]
 simp -implicitDefEqProofs (maxSteps:=9^9) (disch:=omega) only[go_sem,simprocAttr,hw1]
 refine ARun.countA (r.hands.toNat+1) (fun i τ=>∃j,τ=σ++(.cells (r.wcells ds):: .map []::j)∧explR r ds=explF r ds (r.hands.toNat+1-i) i) (fun i=>[(13,.int .i64 i)]) (by simp[upd,ins,subF,lookA]) ⟨[],by simp[Ros.wcells],rfl⟩ ?_ ?_
 ·rintro i τ hi ⟨j,rfl,hE⟩ ih
  have hE1:explR r ds=if foundR r ds i=[] then explF r ds (r.hands.toNat+1- (i+1)) (i+1) else(foundR r ds i).foldl addX []:=by
   rw[hE,show r.hands.toNat+1-i=(r.hands.toNat+1- (i+1))+1 by omega];rfl
  clear hE
  have hsh:IntKind.u64.wrap (1*2^min r.hands.toNat 64)=((2^r.hands.toNat:Nat):Int):=by
   have e1:min r.hands.toNat 64=r.hands.toNat:=by omega
   have hp:(2:Nat)^r.hands.toNat≤2^4:=Nat.pow_le_pow_right (by omega) (by omega)
   rw[e1,Int.one_mul]
   have:((2:Int)^r.hands.toNat)=((2^r.hands.toNat:Nat):Int):=by push_cast;rfl
   rw[this,u64_nat,Nat.mod_eq_of_lt (by omega)]
  refine ev_sound (Tryz.envOK (S:=S) 44 (fun _=>([],[])) fs403 fs403_ok) (n:=1000) (by kernel_rfl) ?_
  simp -implicitDefEqProofs (maxSteps:=9^9) (disch:=omega) only[go_sem,simprocAttr,Ros.wcells,hsh]
  refine ARun.countA (2^r.hands.toNat) (fun n τ=>∃j2,τ=σ++(.cells (r.wcells ds):: .map (mapX ((foundS r ds i n).foldl addX []))::j2)) (fun n=>[(20,.int .u64 n)]) (by simp[upd,ins,subF,lookA]) ⟨j,by simp[Ros.wcells,foundS,mapX]⟩ ?_ ?_
  ·rintro n τ hn ⟨j2,rfl⟩ ih2
   have hn16:n<16:=by
    have hp:(2:Nat)^r.hands.toNat≤2^4:=Nat.pow_le_pow_right (by omega) (by omega)
    omega
   have hwn:IntKind.u64.wrap ((n:Int)+1)=((n+1:Nat):Int):=by rw[show((n:Int)+1)=((n+1:Nat):Int) by push_cast;rfl,u64_nat,Nat.mod_eq_of_lt (by omega)]
   rw[foundS_succ,List.foldl_append] at ih2
   refine ev_sound (Tryz.envOK (S:=S) 44 (fun _=>([],[])) fs403 fs403_ok) (n:=1000) (by kernel_rfl) ?_
   by_cases hc:popN n=i
   ·rw[if_pos hc] at ih2
    simp -implicitDefEqProofs (maxSteps:=9^9) (disch:=omega) only[go_sem,simprocAttr,Ros.wcells,hwn,hc]
    refine htruths_p r ds hr n hn16 _ _ ?_
    have hTl:=htruthsR_len hr.toHead (ds:=ds) (s:=n)
    have hTo:∀u∈htruthsR r ds n,u.length=4:=fun u hu=>(htruthsR_ok hr.toHead hu).len
    have hFo:∀u∈(foundS r ds i n).foldl addX [],u.length=4:=addXs_all (p:=fun u=>u.length=4) (by simp) fun u hu=>(foundS_ok hr.toHead hu).len
    generalize htruthsR r ds n=TL at hTl hTo ih2⊢
    generalize (foundS r ds i n).foldl addX []=F0 at hFo ih2⊢
    simp -implicitDefEqProofs (maxSteps:=9^9) (disch:=omega) only[go_sem,simprocAttr,Ros.wcells,hwn,hc]
    refine ARun.forS (Tryz.envOK (S:=S) 44 (fun _=>([],[])) fs403 fs403_ok) TL.length (fun _=>True) (fun k=>[(31,.int .i64 k)]) (fun k j3=>σ++(.cells (r.wcells ds):: .map (mapX ((TL.take k).foldl addX F0))::j3)) j2 (by kernel_rfl) (by simp[Ros.wcells]) (by simp[upd,ins,subF,lookA]) trivial ?_ ?_
    ·intro k j3 hk _ ih3
     rw[take_foldl hk] at ih3
     have hxl:=hTo _ (List.getElem_mem hk)
     have hFk:∀u∈(TL.take k).foldl addX F0,u.length=4:=addXs_all (p:=fun u=>u.length=4) hFo fun u hu=>hTo u (List.mem_of_mem_take hu)
     have hidx:idx (TL.map rtv) (k:Int)=some (rtv TL[k]):=idx_nat hk
     generalize (TL.take k).foldl addX F0=F1 at hFk ih3⊢
     have hup:=fun(r0:Nat) (σ0:List AObj)=>@updX _ hxl _ hFk r0 σ0
     obtain⟨a,b,c,d,hx⟩:=len4 hxl
     rw[hx] at hidx ih3 hup
     simp only[rtv,List.map_cons,List.map_nil] at hidx hup
     simp -implicitDefEqProofs (maxSteps:=9^9) (disch:=omega) only[go_sem,simprocAttr,Ros.wcells,hidx,hup]
     exact(ih3 trivial (j3++[_])).castS rfl (by simp[upd,ins,subF,lookA])
    ·intro j3 _
     rw[List.take_length]
     simp -implicitDefEqProofs (maxSteps:=9^9) (disch:=omega) only[go_sem,simprocAttr,Ros.wcells,hwn]
     exact(ih2 _ ⟨j3,rfl⟩).castS rfl (by simp[upd,ins,subF,lookA])
   ·rw[if_neg hc] at ih2
    have hc':((popN n:Int)=i)=False:=by simp;omega
    simp -implicitDefEqProofs (maxSteps:=9^9) (disch:=omega) only[go_sem,simprocAttr,Ros.wcells,hwn,hc']
    exact(ih2 _ ⟨j2,rfl⟩).castS rfl (by simp[upd,ins,subF,lookA])
  ·rintro τ ⟨j2,rfl⟩
   have hF:(foundS r ds i (2^r.hands.toNat)).foldl addX []=(foundR r ds i).foldl addX []:=rfl
   rw[hF]
   have hwi:IntKind.i64.wrap ((i:Int)+1)=((i+1:Nat):Int):=by rw[wrap64 (by omega) (by omega)];rfl
   refine ev_sound (Tryz.envOK (S:=S) 44 (fun _=>([],[])) fs403 fs403_ok) (n:=6) (by kernel_rfl) ?_
   simp -implicitDefEqProofs (maxSteps:=9^9) (disch:=omega) only[go_sem,simprocAttr,Ros.wcells]
   change ARun _ _ _ _ _ _
   refine ARun.regionM (Tryz.envOK (S:=S) 44 (fun _=>([],[])) fs403 fs403_ok) 1 ?_
   by_cases hz:foundR r ds i=[]
   ·rw[if_pos hz] at hE1
    have hz':(foundR r ds i).foldl addX []=[]:=addX_nil.2 hz
    rw[hz']
    have hml:(mapX []).length=0:=rfl
    simp -implicitDefEqProofs (maxSteps:=9^9) (disch:=omega) only[go_sem,simprocAttr,Ros.wcells,hml]
    refine ev_sound (Tryz.envOK (S:=S) 44 (fun _=>([],[])) fs403 fs403_ok) (n:=1000) (by kernel_rfl) ?_
    simp -implicitDefEqProofs (maxSteps:=9^9) (disch:=omega) only[go_sem,simprocAttr,Ros.wcells,hml,hwi]
    exact(ih _ ⟨j2,rfl,hE1⟩).castS rfl (by simp[upd,ins,subF,lookA])
   ·rw[if_neg hz] at hE1
    have hz':(foundR r ds i).foldl addX []≠[]:=fun e=>hz (addX_nil.1 e)
    rw[← hE1] at hz'⊢
    have hml:(mapX (explR r ds)).length=(explR r ds).length:=by simp[mapX]
    have hpos:(0:Int)<((explR r ds).length:Int):=by have:=List.length_pos_iff.2 hz';omega
    simp -implicitDefEqProofs (maxSteps:=9^9) (disch:=omega) only[go_sem,simprocAttr,Ros.wcells,hml]
    refine ev_sound (Tryz.envOK (S:=S) 44 (fun _=>([],[])) fs403 fs403_ok) (n:=1000) (by kernel_rfl) ?_
    simp -implicitDefEqProofs (maxSteps:=9^9) (disch:=omega) only[go_sem,simprocAttr,Ros.wcells,hml]
    exact h j2
 ·rintro τ ⟨j,rfl,hE⟩
  have hE1:explR r ds=[]:=by rw[hE,Nat.sub_self];rfl
  refine ev_sound (Tryz.envOK (S:=S) 44 (fun _=>([],[])) fs403 fs403_ok) (n:=1000) (by kernel_rfl) ?_
  have hlt:((r.hands.toNat+1:Nat):Int)=r.hands+1:=by omega
  simp -implicitDefEqProofs (maxSteps:=9^9) (disch:=omega) only[go_sem,simprocAttr]
  have:=h j;rw[hE1] at this;exact this
def bitsOf(p:Nat→Bool):Nat→Nat
 | 0=>0
 | n+1=>bitsOf p n+if p n then 2^n else 0
theorem bitsOf_lt(p:Nat→Bool):∀n,bitsOf p n<2^n
 | 0=>by simp[bitsOf]
 | n+1=>by
  have:=bitsOf_lt p n
  simp only[bitsOf,Nat.pow_succ]
  split<;> omega
theorem bitsOf_test(p:Nat→Bool):∀n i,(bitsOf p n).testBit i=(decide (i<n)&&p i)
 | 0,i=>by simp[bitsOf]
 | n+1,i=>by
  have hl:=bitsOf_lt p n
  have ih:=bitsOf_test p n i
  simp only[bitsOf]
  by_cases hp:p n
  ·rw[if_pos hp,Nat.add_comm]
   rcases(by omega:i<n∨i=n∨n<i) with h | h | h
   ·rw[Nat.testBit_two_pow_add_gt h,ih];simp[h,Nat.lt_succ_of_lt h]
   ·subst h
    rw[Nat.testBit_two_pow_add_eq,ih];simp[hp]
   ·rw[Nat.testBit_lt_two_pow]
    ·simp;omega
    ·have:2^(n+1)≤2^i:=Nat.pow_le_pow_right (by omega) (by omega)
     rw[Nat.pow_succ] at this;omega
  ·rw[if_neg hp,Nat.add_zero,ih]
   rcases(by omega:i<n∨i=n∨n<i) with h | h | h
   ·simp[h,Nat.lt_succ_of_lt h]
   ·subst h;simp[hp]
   ·have h1:decide (i<n)=false:=decide_eq_false (by omega)
    have h2:decide (i<n+1)=false:=decide_eq_false (by omega)
    rw[h1,h2]
theorem bitsOf_or(p:Nat→Bool)(n:Nat):bitsOf p n|||2^n=bitsOf p n+2^n:=by
 have:=Nat.two_pow_add_eq_or_of_lt (bitsOf_lt p n) 1
 rw[Nat.mul_one] at this
 rw[Nat.or_comm,← this,Nat.add_comm]
def driftN(x:List Int):Nat:=bitsOf (fun i=>decide (tg x i≠0)) 4
def listN(s:Nat):List Int:=((List.range 4).filter fun n=>s.testBit n).map fun(n:Nat)=>(n:Int)
theorem driftN_lt(x:List Int):driftN x<16:=bitsOf_lt _ 4
theorem drifting_p(x:List Int)(hx:x.length=4):PureV S 137 [rtv x] (.int .u64 (driftN x)):=by
 refine PvE (Tryz.envOK (S:=S) 22 (fun _=>([],[])) fs403 fs403_ok) (.int) Tryz.kp137 Tryz.func137 rfl ?_
 intro σ
 obtain⟨a,b,c,d,rfl⟩:=len4 hx
 simp only[rtv,List.map_cons,List.map_nil]
 simp -implicitDefEqProofs (maxSteps:=9^9) (disch:=omega) only[go_sem,simprocAttr]
 refine⟨fun h=>by rw[h];rfl,fun _=>?_⟩
 have e:[AV.int .i64 a,.int .i64 b,.int .i64 c,.int .i64 d]=[a,b,c,d].map (AV.int .i64):=rfl
 rw[e]
 clear e
 generalize [a,b,c,d]=x at hx⊢
 refine ARun.forS (Tryz.envOK (S:=S) 22 (fun _=>([],[])) fs403 fs403_ok) 4 (fun _=>True) (fun i=>[(3,.int .u64 (bitsOf (fun i=>decide (tg x i≠0)) i)),(11,.int .i64 i)]) (fun _ _=>σ++[.cells (x.map (.int .i64))]) [] (by kernel_rfl) rfl (by simp[upd,ins,subF,lookA,bitsOf]) trivial ?_ ?_
 ·intro i j hi _ ih
  have hb:=bitsOf_lt (fun i=>decide (tg x i≠0)) i
  have hb4:bitsOf (fun i=>decide (tg x i≠0)) i<65536:=by
   have:(2:Nat)^i≤2^4:=Nat.pow_le_pow_right (by omega) (by omega)
   omega
  have hwi:IntKind.i64.wrap ((i:Int)+1)=((i+1:Nat):Int):=by rw[wrap64 (by omega) (by omega)];rfl
  have hor:=bitsOf_or (fun i=>decide (tg x i≠0)) i
  have hsu:bitsOf (fun i=>decide (tg x i≠0)) (i+1)=bitsOf (fun i=>decide (tg x i≠0)) i+if decide (tg x i≠0)=true then 2^i else 0:=rfl
  rw[hsu] at ih
  generalize bitsOf (fun i=>decide (tg x i≠0)) i=B at *
  have hidx:(x.map (AV.int .i64))[i]? = some (.int .i64 (tg x i)):=by
   have:=@tget x (i:Int) (by omega) (by omega)
   simpa using this
  by_cases hz:tg x i=0
  ·have hz':(tg x i=0)=True:=eq_true hz
   rw[if_neg (by simp[hz])] at ih
   simp -implicitDefEqProofs (maxSteps:=9^9) (disch:=omega) only[go_sem,simprocAttr,hz',hwi,hidx]
   exact(ih trivial []).castS rfl (by simp[upd,ins,subF,lookA])
  ·have hz':(tg x i=0)=False:=eq_false hz
   rw[if_pos (by simp[hz])] at ih
   simp -implicitDefEqProofs (maxSteps:=9^9) (disch:=omega) only[go_sem,simprocAttr,hz',hwi,hor,hidx]
   exact(ih trivial []).castS rfl (by simp[upd,ins,subF,lookA])
 ·intro j _
  simp -implicitDefEqProofs (maxSteps:=9^9) (disch:=omega) only[go_sem,simprocAttr]
  rfl
theorem list_p(s:Nat)(hs:s<16):PureV S 112 [.int .u64 s] (ints1 (listN s)):=by
 refine PvE (Tryz.envOK (S:=S) 20 (fun _=>([],[])) fs403 fs403_ok) ((ints1_good (listN s)).2) Tryz.kp112 Tryz.func112 rfl ?_
 intro σ
 simp -implicitDefEqProofs (maxSteps:=9^9) (disch:=omega) only[go_sem,simprocAttr]
 refine ARun.ghost 3 1 (sz0:=0) rfl (by simp[lookA]) ?_
 simp only[ins,↓reduceIte,Nat.reduceEqDiff]
 refine ARun.forS (Tryz.envOK (S:=S) 20 (fun _=>([],[])) fs403 fs403_ok) 4 (fun _=>True) (fun i=>[(3,.list (.own σ.length) 1 ((((List.range i).filter fun n=>s.testBit n).map fun(n:Nat)=>(n:Int)).map (.int .i64))),(8,.int .i64 i)]) (fun i _=>σ++[.tail (((List.range i).filter fun n=>s.testBit n).map fun(n:Nat)=>(n:Int)).length 1]) [] (by kernel_rfl) rfl (by simp[upd,ins,subF,lookA]) trivial ?_ ?_
 ·intro i j hi _ ih
  have hlen:(((List.range i).filter fun n=>s.testBit n).map fun(n:Nat)=>(n:Int)).length≤i:=by
   rw[List.length_map];exact Nat.le_trans (List.length_filter_le _ _) (by simp)
  have hwi:IntKind.i64.wrap ((i:Int)+1)=((i+1:Nat):Int):=by rw[wrap64 (by omega) (by omega)];rfl
  have hsu:(((List.range (i+1)).filter fun n=>s.testBit n).map fun(n:Nat)=>(n:Int))=(((List.range i).filter fun n=>s.testBit n).map fun(n:Nat)=>(n:Int))++if s.testBit i then[(i:Int)] else[]:=by
   rw[List.range_succ,List.filter_append,List.map_append]
   cases h:s.testBit i<;> simp[h]
  rw[hsu] at ih
  generalize (((List.range i).filter fun n=>s.testBit n).map fun(n:Nat)=>(n:Int))=L at *
  cases hb:s.testBit i
  ·rw[hb] at ih
   simp -implicitDefEqProofs (maxSteps:=9^9) (disch:=omega) only[go_sem,simprocAttr,hb,hwi]
   exact(ih trivial []).castS (by simp) (by simp[upd,ins,subF,lookA])
  ·rw[hb] at ih
   simp -implicitDefEqProofs (maxSteps:=9^9) (disch:=omega) only[go_sem,simprocAttr,hb,hwi]
   exact(ih trivial []).castS (by simp) (by simp[upd,ins,subF,lookA])
 ·intro j _
  simp -implicitDefEqProofs (maxSteps:=9^9) (disch:=omega) only[go_sem,simprocAttr,ints1]
  rfl
def cmpI_s:=spec2 tI tI fun x y=>some (.int .i64 (if x=y then 0 else if x<y then -1 else 1))
theorem cmpI_ok:∀xs v,cmpI_s xs=some v→PureV S 180 xs v:=by
 refine spec2_ok fun x y v h=>?_
 simp only[Option.some.injEq] at h;subst h
 refine PvE (Tryz.envOK (S:=S) 20 (fun _=>([],[])) fs300 fs300_ok) (.int) Tryz.kp180 Tryz.func180 rfl ?_
 intro σ
 simp only[tI]
 simp -implicitDefEqProofs (maxSteps:=9^9) (disch:=omega) only[go_sem,simprocAttr]
 refine⟨fun h=>by rw[if_neg (by omega),if_pos h],fun h=>⟨fun h2=>by rw[if_neg (by omega),if_neg h],fun h2=>by rw[if_pos (by omega)]⟩⟩
def fs404(f:FuncId)(xs:List AV):Option AV:=if f=180 then cmpI_s xs else fs403 f xs
theorem fs404_ok{S:MC Tryz.prog}:∀f xs v,fs404 f xs=some v→PureV S f xs v:=by
 intro f xs v h
 unfold fs404 at h
 split at h
 ·rename_i e;subst e;exact cmpI_ok _ _ h
 exact fs403_ok _ _ _ h
attribute [go_sem] fs404 cmpI_s
theorem cmpL_p(a b:List Int)(ha:a.length≤1000000)(hb:b.length≤1000000):PureV S 139 [ints1 a,ints1 b] (.int .i64 (cmpL a b)):=by
 refine PvE (Tryz.envOK (S:=S) 36 (fun _=>([],[])) fs404 fs404_ok) (.int) Tryz.kp139 Tryz.func139 rfl ?_
 intro σ
 simp only[ints1]
 simp -implicitDefEqProofs (maxSteps:=9^9) (disch:=omega) only[go_sem,simprocAttr]
 refine ARun.forS (Tryz.envOK (S:=S) 36 (fun _=>([],[])) fs404 fs404_ok) a.length (fun i=>cmpL (a.drop i) (b.drop i)=cmpL a b) (fun i=>[(11,.int .i64 i)]) (fun _ _=>σ) [] (by kernel_rfl) rfl (by simp[upd,ins,subF,lookA]) (by simp) ?_ ?_
 ·intro i j hi hp ih
  by_cases hb2:i<b.length
  ·rw[cmpL_drop hi hb2] at hp
   have hge:(b.length≤i)=False:=eq_false (by omega)
   by_cases he:a[i]=b[i]
   ·rw[if_pos he] at hp
    have he':(a[i]=b[i])=True:=eq_true he
    simp -implicitDefEqProofs (maxSteps:=9^9) (disch:=omega) only[go_sem,simprocAttr,hge,he']
    exact(ih hp []).castS rfl (by simp[upd,ins,subF,lookA])
   ·rw[if_neg he] at hp
    have he':(a[i]=b[i])=False:=eq_false he
    rw[← hp]
    by_cases hl:a[i]<b[i]
    ·have hl':(a[i]<b[i])=True:=eq_true hl
     simp -implicitDefEqProofs (maxSteps:=9^9) (disch:=omega) only[go_sem,simprocAttr,hge,he',hl']
    ·have hl':(a[i]<b[i])=False:=eq_false hl
     simp -implicitDefEqProofs (maxSteps:=9^9) (disch:=omega) only[go_sem,simprocAttr,hge,he',hl']
  ·rw[cmpL_endA hi (by omega)] at hp
   rw[← hp]
   have hge:(b.length≤i)=True:=eq_true (by omega)
   simp -implicitDefEqProofs (maxSteps:=9^9) (disch:=omega) only[go_sem,simprocAttr,hge]
 ·intro j hp
  by_cases hl:a.length<b.length
  ·rw[cmpL_endB hl] at hp
   rw[← hp]
   have hl':(a.length<b.length)=True:=eq_true hl
   simp -implicitDefEqProofs (maxSteps:=9^9) (disch:=omega) only[go_sem,simprocAttr,hl']
  ·rw[cmpL_endC hl] at hp
   rw[← hp]
   have hl':(a.length<b.length)=False:=eq_false hl
   simp -implicitDefEqProofs (maxSteps:=9^9) (disch:=omega) only[go_sem,simprocAttr,hl']
def cmpL_s:=spec2 tIs tIs fun a b=>if a.length≤1000000∧b.length≤1000000 then some (.int .i64 (cmpL a b)) else none
theorem cmpL_ok:∀xs v,cmpL_s xs=some v→PureV S 139 xs v:=
 spec2_ok fun a b v h=>by have h:=someIf h;rw[← h.2];exact cmpL_p a b h.1.1 h.1.2
def fs405(f:FuncId)(xs:List AV):Option AV:=if f=139 then cmpL_s xs else fs404 f xs
theorem fs405_ok{S:MC Tryz.prog}:∀f xs v,fs405 f xs=some v→PureV S f xs v:=by
 intro f xs v h
 unfold fs405 at h
 split at h
 ·rename_i e;subst e;exact cmpL_ok _ _ h
 exact fs404_ok _ _ _ h
attribute [go_sem] fs405 cmpL_s
end Go.Proofs
