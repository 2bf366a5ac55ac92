/- Texts of a proof: lemmas. -/
import Derived.Test.YtgbdndlmdklefaaGreatGK17
import Derived.Test.YtgbdndlmdklefaaGreatGK16
set_option linter.unusedSimpArgs false
set_option linter.unusedVariables false
set_option maxRecDepth 100000
set_option maxHeartbeats 40000000
namespace Go.Proofs
open Go Go.Mu
variable {S:MC Tryz.prog}
def withS(r:Rd)(c:Int):Rd:=⟨r.kind,r.a,r.b,r.sec,⟨c,c⟩⟩
def cLo(n sl:Int):Int:=mx 0 (n/100-sl-1)
def cHi(n sl:Int):Int:=mn 25000 (n/100+sl+2)
def outAt(r:Rd)(sl:Int)(t:List Int)(i:Nat):List Int:=((List.range i).map fun k:Nat=>cLo (tg t r.a*r.sec) sl+k).filter fun c=>isR (withS r c) sl t
def showsL(r:Rd)(sl:Int)(t:List Int):List Int:=
 if r.kind=1 then outAt r sl t (cHi (tg t r.a*r.sec) sl-cLo (tg t r.a*r.sec) sl+1).toNat
 else if r.kind=2 then[dist (tg t r.a) (tg t r.b)*r.sec/100] else[if isR r sl t then 1 else 0]
theorem outAt_succ{r:Rd}{sl:Int}{t:List Int}{i:Nat}:outAt r sl t (i+1)=outAt r sl t i++(if isR (withS r (cLo (tg t r.a*r.sec) sl+i)) sl t then[cLo (tg t r.a*r.sec) sl+i] else[]):=by
 simp only[outAt,List.range_succ,List.map_append,List.filter_append,List.map_cons,List.map_nil,List.filter_cons,List.filter_nil]
theorem outAt_len{r:Rd}{sl:Int}{t:List Int}{i:Nat}:(outAt r sl t i).length≤i:=by
 unfold outAt
 exact Nat.le_trans (List.length_filter_le _ _) (by simp)
theorem shows1_p(a b s x y sl:Int)(t:List Int)(hr:okR ⟨1,a,b,s,⟨x,y⟩⟩)(hsl:0≤sl∧sl≤3)(ht:t.length=3)(hs:small t):PureV S 208 [rdv ⟨1,a,b,s,⟨x,y⟩⟩ sl,tav t] (tIs.av (showsL ⟨1,a,b,s,⟨x,y⟩⟩ sl t)):=by
 refine PvE (Tryz.envOK (S:=S) 76 Tryz.ord208 fs5 fs5_ok) (Plain.ints) Tryz.kp208 Tryz.func208 rfl ?_
 intro σ
 simp only[rdv,tav,if_true]
 obtain⟨ha,hb,hsec,hx,hy⟩:=hr.2
 simp only at ha hb hsec hx hy
 have hn:=mul_le (small_tg hs a) hsec
 obtain⟨q,hq⟩:∃q,(tg t a*s).tdiv 100=q:=⟨_,rfl⟩
 have hq2:q=tg t a*s/100:=by rw[← hq];exact Int.tdiv_eq_ediv_of_nonneg hn.1
 obtain⟨lo,hlo⟩:∃lo,(if 0<q-sl-1 then q-sl-1 else 0)=lo:=⟨_,rfl⟩
 obtain⟨hi,hhi⟩:∃hi,(if q+sl+2<25000 then q+sl+2 else 25000)=hi:=⟨_,rfl⟩
 have elo:cLo (tg t a*s) sl=lo:=by rw[← hlo,hq2];rfl
 have ehi:cHi (tg t a*s) sl=hi:=by rw[← hhi,hq2];rfl
 have blo:0≤lo∧lo≤300000:=by rw[← hlo];split<;> omega
 have bhi:0≤hi∧hi≤25000:=by rw[← hhi];split<;> omega
 simp -implicitDefEqProofs (maxSteps:=9^9) (disch:=omega) only[go_sem,simprocAttr,hq,hlo,tC_dec]
 refine ARun.ghost 7 1 (sz0:=0) rfl (by simp[lookA]) ?_
 simp only[ins,↓reduceIte,List.append_assoc,List.cons_append,List.nil_append,List.length_append,List.length_cons,List.length_nil,Nat.zero_add,Nat.reduceEqDiff,Nat.reduceAdd]
 refine ARun.forJ (Tryz.envOK (S:=S) 76 Tryz.ord208 fs5 fs5_ok) (hi-lo+1).toNat (fun i σ'=>∃x y j,σ'=σ++(.cells (t.map (AV.int .i64)):: .cells [.int .i64 1,.int .i64 a,.int .i64 b,.int .i64 s,.int .i64 x,.int .i64 y,.int .i64 sl]:: .tail (outAt ⟨1,a,b,s,⟨x,y⟩⟩ sl t i).length 1::j)) (fun i=>[(7,.list (.own (σ.length+2)) 1 ((outAt ⟨1,a,b,s,⟨x,y⟩⟩ sl t i).map (AV.int .i64))),(8,.int .i64 (lo+i))]) (by kernel_rfl) (by simp[upd,ins,subF,lookA,outAt]) ⟨x,y,[],by simp[outAt]⟩ ?_ ?_
 ·rintro i σ' hi' ⟨x',y',j,rfl⟩ ih
  have hokc:okR ⟨1,a,b,s,⟨lo+i,lo+i⟩⟩:=⟨hr.1,ha,hb,hsec,by simp only;omega,by simp only;omega⟩
  have hsu:=outAt_succ (r:=⟨1,a,b,s,⟨x,y⟩⟩) (sl:=sl) (t:=t) (i:=i)
  simp only[elo,withS] at hsu
  have hol:=outAt_len (r:=⟨1,a,b,s,⟨x,y⟩⟩) (sl:=sl) (t:=t) (i:=i)
  have hE:∀x' y' i,outAt ⟨1,a,b,s,⟨x',y'⟩⟩ sl t i=outAt ⟨1,a,b,s,⟨x,y⟩⟩ sl t i:=fun _ _ _=>rfl
  simp only[hE]
  cases hb2:isR ⟨1,a,b,s,⟨lo+i,lo+i⟩⟩ sl t
  ·rw[hb2] at hsu
   simp -implicitDefEqProofs (maxSteps:=9^9) (disch:=omega) only[go_sem,simprocAttr,hq,hlo,hhi,hokc,hs,hb2,tC_dec,decC]
   refine(ih _ ⟨lo+i,lo+i,j,?_⟩).castS rfl (by simp[upd,ins,subF,lookA,hsu,Int.add_assoc])
   simp[hE,hsu]
  ·rw[hb2] at hsu
   simp -implicitDefEqProofs (maxSteps:=9^9) (disch:=omega) only[go_sem,simprocAttr,hq,hlo,hhi,hokc,hs,hb2,tC_dec,decC]
   refine(ih _ ⟨lo+i,lo+i,j,?_⟩).castS rfl (by simp[upd,ins,subF,lookA,hsu,Int.add_assoc])
   simp[hE,hsu]
 ·rintro σ' ⟨x',y',j,rfl⟩
  simp -implicitDefEqProofs (maxSteps:=9^9) (disch:=omega) only[go_sem,simprocAttr,hq,hlo,hhi]
  exact⟨by simp[showsL,elo,ehi],.inl rfl,.inl rfl⟩
theorem shows2_p(r:Rd)(sl:Int)(t:List Int)(hr:okR r)(hk:r.kind=2)(ht:t.length=3)(hs:small t):PureV S 208 [.iface 254 r.av,tav t] (tIs.av (showsL r sl t)):=by
 refine PvE (Tryz.envOK (S:=S) 76 Tryz.ord208 fs5 fs5_ok) (Plain.ints) Tryz.kp208 Tryz.func208 rfl ?_
 intro σ
 obtain⟨k,a,b,s,x,y⟩:=r
 simp only at hk
 subst hk
 simp only[Rd.av,tav]
 obtain⟨ha,hb,hsec,hx,hy⟩:=hr.2
 simp only at ha hb hsec hx hy
 have hn:=mul_le (dist_le (small_tg hs a) (small_tg hs b)) hsec
 have hq:(dist (tg t a) (tg t b)*s).tdiv 100=dist (tg t a) (tg t b)*s/100:=Int.tdiv_eq_ediv_of_nonneg hn.1
 simp -implicitDefEqProofs (maxSteps:=9^9) (disch:=omega) only[go_sem,simprocAttr,hs,hq]
 exact⟨by simp[showsL],.inl rfl,.inl rfl⟩
theorem shows3_p(r:Rd)(sl:Int)(t:List Int)(hr:okR r)(hsl:0≤sl∧sl≤3)(hk:r.kind=3)(ht:t.length=3)(hs:small t):PureV S 208 [.iface 255 r.av,tav t] (tIs.av (showsL r sl t)):=by
 refine PvE (Tryz.envOK (S:=S) 76 Tryz.ord208 fs5 fs5_ok) (Plain.ints) Tryz.kp208 Tryz.func208 rfl ?_
 intro σ
 have hinv:=@invoke_is S 76 Tryz.ord208 fs5 (fun _=>⟨rfl,rfl,rfl⟩) r sl t
 have hrd:rdv r sl= .iface 255 r.av:=by simp[rdv,hk]
 rw[hrd] at hinv
 simp only[tav]
 cases hb:isR r sl t
 ·simp -implicitDefEqProofs (maxSteps:=9^9) (disch:=omega) only[go_sem,simprocAttr,hinv hr hsl ht hs,hb]
  exact⟨by simp[showsL,hk,hb],.inl rfl,.inl rfl⟩
 ·simp -implicitDefEqProofs (maxSteps:=9^9) (disch:=omega) only[go_sem,simprocAttr,hinv hr hsl ht hs,hb]
  exact⟨by simp[showsL,hk,hb],.inl rfl,.inl rfl⟩
theorem shows_p(r:Rd)(sl:Int)(t:List Int)(hr:okR r)(hsl:0≤sl∧sl≤3)(ht:t.length=3)(hs:small t):PureV S 208 [rdv r sl,tav t] (tIs.av (showsL r sl t)):=by
 have hk:=hr.1
 rcases(by omega:r.kind=1∨r.kind=2∨r.kind=3) with k | k | k
 ·obtain⟨rk,a,b,s,x,y⟩:=r
  simp only at k
  subst k
  exact shows1_p a b s x y sl t hr hsl ht hs
 ·have:=shows2_p (S:=S) r sl t hr k ht hs
  simpa[rdv,k] using this
 ·have:=shows3_p (S:=S) r sl t hr hsl k ht hs
  simpa[rdv,k] using this
theorem showsL_len{r:Rd}{sl:Int}{t:List Int}:(showsL r sl t).length≤30001:=by
 unfold showsL
 split
 ·refine Nat.le_trans outAt_len ?_
  have h1:0≤cLo (tg t r.a*r.sec) sl:=by unfold cLo mx;split<;> omega
  have h2:cHi (tg t r.a*r.sec) sl≤25000:=by unfold cHi mn;split<;> omega
  omega
 ·split<;> simp
end Go.Proofs
namespace Go.Proofs
open Go Go.Mu
end Go.Proofs
namespace Go.Proofs
open Go Go.Mu
variable {S:MC Tryz.prog}
def pushO(t:List Int)(m:List (Int×List (List Int)))(k:Int):List (Int×List (List Int)):=mset m k ((mget m k).getD []++[t])
def outS(r:Rd)(sl:Int)(m:List (Int×List (List Int)))(t:List Int):List (Int×List (List Int)):=(showsL r sl t).foldl (pushO t) m
def outcomesL(r:Rd)(sl:Int)(l:List (List Int)):List (Int×List (List Int)):=l.foldl (outS r sl) []
abbrev MT:=List (Int×(Nat×List (List Int)))
def mapT(m:MT):List (AV×AV):=m.map fun p=>(AV.int .i64 p.1,AV.list (.own p.2.1) 3 (p.2.2.map tav))
def strip(m:MT):List (Int×List (List Int)):=m.map fun p=>(p.1,p.2.2)
theorem fIdx_strip{k:Int}:∀{m:MT} {i:Nat},fIdx k (strip m) i=(fIdx k m i).map fun q=>(q.1,q.2.2)
 | [],_=>rfl
 | (k',v)::m,i=>by
  simp only[strip,List.map_cons,fIdx]
  split
  ·rfl
  ·exact fIdx_strip (m:=m)
theorem mget_strip{k:Int}{m:MT}:mget (strip m) k=(mget m k).map (·.2):=by
 unfold mget;rw[fIdx_strip];cases fIdx k m 0<;> rfl
theorem strip_mset{k:Int}{m:MT}{v:Nat×List (List Int)}:strip (mset m k v)=mset (strip m) k v.2:=by
 unfold mset;rw[fIdx_strip]
 cases fIdx k m 0 with
 | none=>simp[strip]
 | some q=>simp[strip,List.map_set]
theorem lookT_none{m:MT}{k:Int}{σ:List AObj}(h:mget m k=none):lookR false (.list .full 0 []) σ (findA (.int .i64 k) (mapT m) 0)=some (.list .full 0 [],σ):=by
 have:=lookR_map (f:=fun v:Nat×List (List Int)=>AV.list (.own v.1) 3 (v.2.map tav)) (m:=m) (k:=k) (ok:=false) (z:= .list .full 0 []) (σ:=σ)
 unfold mapT;rw[this,h];rfl
theorem lookT_some{m:MT}{k:Int}{σ:List AObj}{v:Nat×List (List Int)}(h:mget m k=some v):lookR false (.list .full 0 []) σ (findA (.int .i64 k) (mapT m) 0)=some (.list (.own v.1) 3 (v.2.map tav),σ):=by
 have:=lookR_map (f:=fun v:Nat×List (List Int)=>AV.list (.own v.1) 3 (v.2.map tav)) (m:=m) (k:=k) (ok:=false) (z:= .list .full 0 []) (σ:=σ)
 unfold mapT;rw[this,h];rfl
theorem updT{m:MT}{k:Int}{r id:Nat}{ts:List (List Int)}{xs:List AV}{σ:List AObj}(h:xs=ts.map tav):updR r (mapT m) (.int .i64 k) (.list (.own id) 3 xs) σ (findA (.int .i64 k) (mapT m) 0)=some (.tup [],hset σ r (.map (mapT (mset m k (id,ts))))):=by
 subst h
 exact updR_map (f:=fun v:Nat×List (List Int)=>AV.list (.own v.1) 3 (v.2.map tav)) (v:=(id,ts))
structure OutOK(B:Nat)(σ:List AObj)(m:MT)(τ:List AObj):Prop where
 len:σ.length<τ.length
 old:∀k,k<σ.length→hget τ k=hget σ k
 map:hget τ σ.length=some (.map (mapT m))
 tl:∀p∈m,σ.length<p.2.1∧hget τ p.2.1=some (.tail p.2.2.length 3)∧p.2.2.length≤B
 nd:(m.map fun p=>p.2.1).Nodup
theorem OutOK.lt{B:Nat}{σ:List AObj}{m:MT}{τ:List AObj}(h:OutOK B σ m τ){p:Int×(Nat×List (List Int))}(hp:p∈m):p.2.1<τ.length:=hget_lt (h.tl p hp).2.1
theorem OutOK.app{B:Nat}{σ:List AObj}{m:MT}{τ l:List AObj}(h:OutOK B σ m τ):OutOK B σ m (τ++l):=
 ⟨by have:=h.len;simp;omega,fun k hk=>by rw[hget_app (by have:=h.len;omega)];exact h.old k hk,by rw[hget_app h.len];exact h.map,fun p hp=>⟨(h.tl p hp).1,by rw[hget_app (h.lt hp)];exact(h.tl p hp).2.1,(h.tl p hp).2.2⟩,h.nd⟩
theorem OutOK.mono{B C:Nat}{σ:List AObj}{m:MT}{τ:List AObj}(h:OutOK B σ m τ)(hc:B≤C):OutOK C σ m τ:=⟨h.len,h.old,h.map,fun p hp=>⟨(h.tl p hp).1,(h.tl p hp).2.1,Nat.le_trans (h.tl p hp).2.2 hc⟩,h.nd⟩
theorem OutOK.new{B:Nat}(hB:1≤B){σ:List AObj}{m:MT}{τ:List AObj}(h:OutOK B σ m τ){k:Int}{t:List Int}(hg:mget m k=none):OutOK B σ (mset m k (τ.length,[t])) (hset (τ++[.tail 1 3]) σ.length (.map (mapT (mset m k (τ.length,[t]))))):=by
 have hf:fIdx k m 0=none:=by unfold mget at hg;cases hx:fIdx k m 0 with | none=>rfl | some q=>rw[hx] at hg;cases hg
 have hm:mset m k (τ.length,[t])=m++[(k,(τ.length,[t]))]:=by unfold mset;rw[hf]
 have hl:=h.len
 refine⟨by rw[length_hset];simp;omega,fun q hq=>by rw[hget_ne (by omega),hget_app (by omega)];exact h.old q hq,hget_set (by rw[hget_app hl];exact h.map) _,fun p hp=>?_,?_⟩
 ·rw[hm] at hp
  rcases List.mem_append.1 hp with hp | hp
  ·have h2:=h.tl p hp
   have h3:=h.lt hp
   exact⟨h2.1,by rw[hget_ne (by omega),hget_app h3];exact h2.2.1,h2.2.2⟩
  ·simp at hp;subst hp
   exact⟨hl,by rw[hget_ne (by simp only;omega)];exact hget_at0,hB⟩
 ·rw[hm,List.map_append,List.nodup_append]
  refine⟨h.nd,by simp,fun a ha b hb=>?_⟩
  simp at hb;subst hb
  obtain⟨p,hp,rfl⟩:=List.mem_map.1 ha
  have:=h.lt hp
  omega
theorem OutOK.more{B:Nat}{σ:List AObj}{m:MT}{τ:List AObj}(h:OutOK B σ m τ){k:Int}{t:List Int}{id:Nat}{ts:List (List Int)}(hg:mget m k=some (id,ts)) :
  OutOK (B+1) σ (mset m k (id,ts++[t])) (hset (hset τ id (.tail (ts.length+1) 3)) σ.length (.map (mapT (mset m k (id,ts++[t]))))):=by
 obtain⟨j,hf⟩:∃j,fIdx k m 0=some (j,(id,ts)):=by
  unfold mget at hg
  cases hx:fIdx k m 0 with
  | none=>rw[hx] at hg;cases hg
  | some q=>obtain⟨j,v⟩:=q;rw[hx] at hg;simp at hg;subst hg;exact⟨j,rfl⟩
 have hm:mset m k (id,ts++[t])=m.set j (k,(id,ts++[t])):=by unfold mset;rw[hf]
 have hj:=(fIdx_get hf).2
 simp only[Nat.sub_zero] at hj
 have hl:=h.len
 have hmem:(k,(id,ts))∈m:=List.mem_of_getElem? hj
 obtain⟨i1,i2,i3⟩:=h.tl _ hmem
 simp only at i1 i2 i3
 obtain⟨hjl,hje⟩:=List.getElem?_eq_some_iff.1 hj
 refine⟨by simp only[length_hset];exact hl,fun q hq=>by rw[hget_ne (by omega),hget_ne (by omega)];exact h.old q hq,hget_set (by rw[hget_ne (by omega)];exact h.map) _,fun p hp=>?_,?_⟩
 ·rw[hm] at hp
  obtain⟨i,hi,rfl⟩:=List.mem_iff_getElem.1 hp
  rw[List.getElem_set]
  by_cases e:j=i
  ·rw[if_pos e]
   exact⟨i1,by simp only;rw[hget_ne (by omega)];simpa using hget_set i2 _,by simp;omega⟩
  ·rw[if_neg e]
   have hi':i<m.length:=by simpa using hi
   have h2:=h.tl _ (List.getElem_mem hi')
   have hne:m[i].2.1≠id:=fun e2=>by
    have:=h.nd
    rw[List.nodup_iff_pairwise_ne,List.pairwise_iff_getElem] at this
    rcases Nat.lt_or_gt_of_ne e with h4 | h4
    ·have:=this j i (by simpa using hjl) (by simpa using hi') h4
     simp[hje] at this;exact this e2.symm
    ·have:=this i j (by simpa using hi') (by simpa using hjl) h4
     simp[hje] at this;exact this e2
   exact⟨h2.1,by rw[hget_ne (by omega),hget_ne (fun e2=>hne e2.symm)];exact h2.2.1,by omega⟩
 ·have:(mset m k (id,ts++[t])).map (fun p=>p.2.1)=m.map fun p=>p.2.1:=by
   rw[hm,List.map_set]
   apply List.ext_getElem?
   intro i
   rw[List.getElem?_set]
   by_cases e:j=i
   ·subst e;simp[hjl,hje]
   ·simp[e]
  rw[this];exact h.nd
theorem outcomes_c(r:Rd)(sl:Int)(l:List (List Int))(hr:okR r)(hsl:0≤sl∧sl≤3)(hl:l.length≤10000)(h3:∀t∈l,t.length=3∧small t)(σ:List AObj)(Q:AV→List AObj→Prop)(h:∀τ m,OutOK 300010000 σ m τ→strip m=outcomesL r sl l→Q (.map σ.length) τ) :
  ACalls S 170 [tavs l,rdv r sl] σ Q:=by
 refine AcE (Tryz.envOK (S:=S) 36 (fun _=>([],[])) fs5 fs5_ok) Tryz.kp170 Tryz.func170 rfl ?_
 simp only[tavs]
 simp -implicitDefEqProofs (maxSteps:=9^9) (disch:=omega) only[go_sem,simprocAttr,tav]
 refine ARun.forJ (Tryz.envOK (S:=S) 36 (fun _=>([],[])) fs5 fs5_ok) l.length (fun i τ=>∃m,OutOK (i*30001) σ m τ∧strip m=(l.take i).foldl (outS r sl) []) (fun i=>[(13,.int .i64 i)]) (by kernel_rfl) (by simp[upd,ins,subF,lookA]) ⟨[],⟨by simp,fun k hk=>hget_app hk,hget_at0,by simp,by simp⟩,rfl⟩ ?_ ?_
 ·rintro i τ hi ⟨m,hO,hm⟩ ih
  have hmi:l[i]∈l:=List.getElem_mem hi
  obtain⟨h3i,hsi⟩:=h3 _ hmi
  rw[foldl_take _ _ _ _ hi,← hm] at ih
  simp -implicitDefEqProofs (maxSteps:=9^9) (disch:=omega) only[go_sem,simprocAttr,tav]
  refine shows_p r sl l[i] hr hsl h3i hsi _ _ ?_
  simp only[tIs]
  have hsl2:=showsL_len (r:=r) (sl:=sl) (t:=l[i])
  simp -implicitDefEqProofs (maxSteps:=9^9) (disch:=omega) only[go_sem,simprocAttr,tav]
  refine ARun.forJ (Tryz.envOK (S:=S) 36 (fun _=>([],[])) fs5 fs5_ok) (showsL r sl l[i]).length (fun i2 τ2=>∃m2,OutOK (i*30001+i2) σ m2 τ2∧strip m2=((showsL r sl l[i]).take i2).foldl (pushO l[i]) (strip m)∧hget τ2 τ.length=some (.cells (l[i].map (AV.int .i64)))) (fun i2=>[(21,.int .i64 i2)]) (by kernel_rfl) (by simp[upd,ins,subF,lookA]) ⟨m,hO.app,rfl,hget_at0⟩ ?_ ?_
  ·rintro i2 τ2 hi2 ⟨m2,hO2,hm2,hb⟩ ih2
   rw[foldl_take _ _ _ _ hi2,← hm2] at ih2
   generalize hkk:(showsL r sl l[i])[i2]=kk at ih2
   have hmap:=hO2.map
   cases hg:mget m2 kk with
   | none=>
    have hmap':∀l,hget (τ2++l) σ.length=some (.map (mapT m2)):=fun l=>by rw[hget_app hO2.len];exact hmap
    have hu:∀r id σ,updR r (mapT m2) (.int .i64 kk) (.list (.own id) 3 [.agg (l[i].map (AV.int .i64))]) σ (findA (.int .i64 kk) (mapT m2) 0)=some (.tup [],hset σ r (.map (mapT (mset m2 kk (id,[l[i]]))))):=fun _ _ _=>updT rfl
    simp -implicitDefEqProofs (maxSteps:=9^9) (disch:=omega) only[go_sem,simprocAttr,tav,hkk,hmap,hmap',hb,lookT_none hg,hu]
    have hbl:=hget_lt hb
    have hτ:σ.length<τ.length:=hO.len
    refine(ih2 _ ⟨_,(hO2.mono (by omega)).new (by omega) hg,?_,?_⟩).castS rfl (by simp[upd,ins,subF,lookA])
    ·rw[strip_mset,pushO,mget_strip,hg];rfl
    ·rw[hget_ne (by omega),hget_app hbl];exact hb
   | some v=>
    obtain⟨id,ts⟩:=v
    obtain⟨t1,t2,t3⟩:=hO2.tl _ (mget_mem hg)
    simp only at t1 t2 t3
    have hu:∀r id σ,updR r (mapT m2) (.int .i64 kk) (.list (.own id) 3 (ts.map tav++[.agg (l[i].map (AV.int .i64))])) σ (findA (.int .i64 kk) (mapT m2) 0)=some (.tup [],hset σ r (.map (mapT (mset m2 kk (id,ts++[l[i]]))))):=fun _ _ _=>updT (by simp[tav])
    have hmap':∀o,hget (hset τ2 id o) σ.length=some (.map (mapT m2)):=fun o=>by rw[hget_ne (by omega)];exact hmap
    simp -implicitDefEqProofs (maxSteps:=9^9) (disch:=omega) only[go_sem,simprocAttr,tav,hkk,hmap,hmap',hb,lookT_some hg,hu,t2]
    have hbl:=hget_lt hb
    have hτ:σ.length<τ.length:=hO.len
    have hne:id≠τ.length:=fun e=>by rw[e] at t2;rw[hb] at t2;cases t2
    refine(ih2 _ ⟨_,(hO2.more hg).mono (by omega),?_,?_⟩).castS rfl (by simp[upd,ins,subF,lookA])
    ·rw[strip_mset,pushO,mget_strip,hg];rfl
    ·rw[hget_ne (by omega),hget_ne hne];exact hb
  ·rintro τ2 ⟨m2,hO2,hm2,hb⟩
   rw[List.take_length] at hm2
   simp -implicitDefEqProofs (maxSteps:=9^9) (disch:=omega) only[go_sem,simprocAttr,tav]
   refine(ih τ2 ⟨m2,hO2.mono (by rw[Nat.succ_mul];omega),hm2⟩).castS rfl (by simp[upd,ins,subF,lookA])
 ·rintro τ ⟨m,hO,hm⟩
  rw[List.take_length] at hm
  simp -implicitDefEqProofs (maxSteps:=9^9) (disch:=omega) only[go_sem,simprocAttr,tav]
  exact h τ m (hO.mono (by omega)) hm
end Go.Proofs
namespace Go.Proofs
open Go Go.Mu
theorem outcomes_sub{r:Rd}{sl:Int}{l:List (List Int)}:∀p∈outcomesL r sl l,p.2≠[]∧∀t∈p.2,t∈l:=by
 have key:∀(l0:List (List Int)) (m:List (Int×List (List Int))),(∀p∈m,p.2≠[]∧∀t∈p.2,t∈l)→(∀t∈l0,t∈l)→∀p∈l0.foldl (outS r sl) m,p.2≠[]∧∀t∈p.2,t∈l:=by
  intro l0
  induction l0 with
  | nil=>intro m h _;exact h
  | cons t l0 ih=>
   intro m h ht
   refine ih (outS r sl m t) ?_ (fun u hu=>ht u (by simp[hu]))
   have htl:=ht t (by simp)
   unfold outS
   generalize showsL r sl t=ks
   clear ih
   induction ks generalizing m with
   | nil=>exact h
   | cons k ks ih=>
    refine ih (m:=pushO t m k) fun p hp=>?_
    rcases mset_mem hp with rfl | hp
    ·refine⟨by simp,fun u hu=>?_⟩
     rcases List.mem_append.1 hu with hu | hu
     ·cases hg:mget m k with
      | none=>rw[hg] at hu;simp at hu
      | some v=>rw[hg] at hu;exact(h _ (mget_mem hg)).2 u hu
     ·simp at hu;subst hu;exact htl
    ·exact h p hp
 exact key l [] (by simp) (fun t ht=>ht)
def gateS(sl:Int)(l:List (List Int))(x width s:Int):Bool:=(outcomesL ⟨1,x,0,s,⟨0,0⟩⟩ sl l).all fun p=>decide ((spanL (fun t=>tg t x) p.2).hi- (spanL (fun t=>tg t x) p.2).lo≤width)
def gateW(m x width:Int):Int:=if 0≤x∧x≤m-1 then(if width<0 then 1 else 0) else 3
def gateL(e:Ear)(x width:Int):Int×Int:=
 if(askL e (gateW e.tones.length x width)).2=0 then
  (match (List.range 20).find? (fun k:Nat=>gateS e.slack (truthsL e) x width (k+1)) with
  | some k=>((k:Int)+1,0)
  | none=>(0,11))
 else(0,(askL e (gateW e.tones.length x width)).2)
theorem find_range{f:Nat→Bool}{i n:Nat}(hi:i<n)(h:∀k,k<i→f k=false)(hf:f i=true):(List.range n).find? f=some i:=by
 rw[List.find?_range_eq_some]
 exact⟨hf,by simpa using hi,fun j hj=>by simp[h j hj]⟩
theorem find_none{f:Nat→Bool}{n:Nat}(h:∀k,k<n→f k=false):(List.range n).find? f=none:=by
 rw[List.find?_eq_none]
 intro x hx
 simp at hx
 simp[h x hx]
theorem spanL_bound{l:List (List Int)}(h:∀t∈l,small t)(hl:l≠[])(x:Int):0≤(spanL (fun t=>tg t x) l).lo∧(spanL (fun t=>tg t x) l).lo≤1000000∧0≤(spanL (fun t=>tg t x) l).hi∧(spanL (fun t=>tg t x) l).hi≤1000000:=by
 have key:∀(l:List (List Int)) (y:Rng),(∀t∈l,small t)→(0≤y.lo∧y.lo≤1000000∧0≤y.hi∧y.hi≤1000000)→(0≤(l.foldl (spanS fun t=>tg t x) y).lo∧(l.foldl (spanS fun t=>tg t x) y).lo≤1000000∧0≤(l.foldl (spanS fun t=>tg t x) y).hi∧(l.foldl (spanS fun t=>tg t x) y).hi≤1000000):=by
  intro l
  induction l with
  | nil=>intro y _ hy;exact hy
  | cons t l ih=>
   intro y ht hy
   refine ih _ (fun u hu=>ht u (by simp[hu])) ?_
   have:=small_tg (ht t (by simp)) x
   simp only[spanS,mn,mx]
   refine⟨?_,?_,?_,?_⟩<;> split<;> omega
 obtain⟨t,l,rfl⟩:∃t l',l=t::l':=by cases l with | nil=>exact absurd rfl hl | cons a b=>exact⟨a,b,rfl⟩
 have:=small_tg (h t (by simp)) x
 exact key _ _ h (by simp only[List.headD_cons];omega)
theorem ARun.loopJ{E:Env}(hE:EnvOK E){ro:Option Nat}{c:Code}{k:List Item}{kp:Nat→Bool}{tm sl:List (Nat×AV)}{σ:List AObj}{Q:Post}{α:Type}(m:α→Nat)(J:α→List AObj→Prop)(lv:α→List (Nat×AV))(x0:α)
  (hO:todoOK E (.code c:: .inLoop c::k)=true) (h0:subF (upd sl (lv x0)) sl) (hJ:J x0 σ)
  (hs:∀x τ,J x τ→(∀y τ',m y<m x→J y τ'→ARun E ro (.inLoop c::k) ⟨kp,[],upd sl (lv y)⟩ τ' Q)→ev E ro 100000 (.code c:: .inLoop c::k) ⟨kp,[],upd sl (lv x)⟩ τ Q):ARun E ro (.code (.loop c)::k) ⟨kp,tm,sl⟩ σ Q:=by
 have key:∀n x τ,m x=n→J x τ→ARun E ro (.code c:: .inLoop c::k) ⟨kp,[],upd sl (lv x)⟩ τ Q:=by
  intro n
  induction n using Nat.strongRecOn with
  | _ n ih=>
   intro x τ hm hj
   exact ev_sound hE hO (hs x τ hj fun y τ' hlt hy=> .inLoop (ih (m y) (by omega) y τ' rfl hy))
 exact .loop (ARun.sub (key _ x0 σ rfl hJ) h0)
theorem nextA_intro{X:AV→List AObj→Prop}{τ:List AObj}{r q c:Nat}{seen:List Nat}{es:List (AV×AV)}(hg:hget τ r=some (.iter (some q) c seen))(hq:hget τ q=some (.map es))(hc:c=es.length)
  (h1:∀i k v,es[i]? = some (k,v)→i∉seen→X (.tup [.bool true,k,v]) (hset τ r (.iter (some q) c (seen++[i])))) (h2:(∀i,i<es.length→i∈seen)→X (.tup [.bool false]) τ):nextA X τ (some (.ptr r 0)):=by
 unfold nextA
 simp only[hg,hq]
 exact⟨hc,h1,h2⟩
theorem nodup_lt:∀{n:Nat} {l:List Nat},l.Nodup→(∀i∈l,i<n)→l.length≤n
 | 0,l,_,hl=>by
  cases l with
  | nil=>simp
  | cons a l=>have:=hl a (by simp);omega
 | n+1,l,h,hl=>by
  by_cases hm:n∈l
  ·have h1:(l.erase n).length≤n:=nodup_lt (h.erase n) fun i hi=>by
    have h2:=hl i (List.mem_of_mem_erase hi)
    have h3:i≠n:=(List.Nodup.mem_erase_iff h).1 hi |>.1
    omega
   rw[List.length_erase_of_mem hm] at h1
   omega
  ·have:=nodup_lt h fun i hi=>by
    have h2:=hl i hi
    have h3:i≠n:=fun e=>hm (e▸hi)
    show i<n
    omega
   omega
end Go.Proofs
namespace Go.Proofs
open Go Go.Mu
variable {S:MC Tryz.prog}
def stOK(j:Jb)(k:Kn)(s:Int):Bool:=okS j (mvK j k s).t (mvK j k s).r&&rdsK j (mvK j k s)
theorem strokeL_eq{j:Jb}{k:Kn}{n:Nat}(h:k.left=n+1):strokeL j k.left k.p k.t k.r=if stOK j k 1 then 1 else if stOK j k 2 then 2 else 0:=by
 obtain⟨p,t,r,l⟩:=k
 simp only at h
 subst h
 rfl
theorem stroke_c{j:Jb}(hj:OkJ j){a1 a2 mr:Nat}(k:Kn)(hk:OkL k)(hS:∀n,k.left=n+1→StopsC (S:=S) j a1 a2 mr n)(σ:List AObj)(hG:GH j a1 a2 mr σ)(Q:AV→List AObj→Prop)(hQ:∀σ',Sm mr σ σ'→GH j a1 a2 mr σ'→Q (.int .i64 (strokeL j k.left k.p k.t k.r)) σ') :
  ACalls S 168 [gamev j (winS j) (fnS a1 a2),k.av] σ Q:=by
 refine AcE (Tryz.envOK (S:=S) 31 (fun _=>([],[])) fs205 fs205_ok) Tryz.kp168 Tryz.func168 rfl ?_
 simp only[gamev,Jb.cells,Kn.av,Kn.cells,fnS,List.cons_append,List.nil_append]
 have hl90:=hk.left
 simp -implicitDefEqProofs (maxSteps:=9^9) (disch:=omega) only[go_sem,simprocAttr]
 obtain⟨G,hGe⟩:∃G,G=[AV.int .i64 j.pitch.lo,.int .i64 j.pitch.hi,.int .i64 j.tip.lo,.int .i64 j.tip.hi,.int .i64 j.root.lo,.int .i64 j.root.hi,.int .i64 j.up.lo,.int .i64 j.up.hi,.int .i64 j.down.lo,.int .i64 j.down.hi,.int .i64 j.wt.lo,.int .i64 j.wt.hi,.int .i64 j.wr.lo,.int .i64 j.wr.hi,.int .i64 j.least,.list .no 2 (j.shifts.map Rng.av),.int .i64 j.within,.int .i64 j.meter,.int .i64 (winS j).lo,.int .i64 (winS j).hi,.fn (.func 205) [] [.ptr a1 0,.ptr a2 0]]:=⟨_,rfl⟩
 obtain⟨n1,n2,n3,n4,n5⟩:=hG.ne
 refine ARun.loopJ (Tryz.envOK (S:=S) 31 (fun _=>([],[])) fs205 fs205_ok) (α:=Nat) (fun i=>3-i) (fun i τ=>(1≤i∧i≤3)∧(∀s:Nat,1≤s→s<i→0<k.left→stOK j k s=false)∧Sm mr σ τ∧GH j a1 a2 mr τ∧σ.length+2≤τ.length∧hget τ σ.length=some (.cells G)∧hget τ (σ.length+1)=some (.cells [.int .i64 k.p.lo,.int .i64 k.p.hi,.int .i64 (k.t:Int),.int .i64 (k.r:Int),.int .i64 (k.left:Int)])) (fun i=>[(5,.int .i64 (i:Int))]) 1 (by kernel_rfl) (by simp[upd,ins,subF,lookA]) ⟨⟨by omega,by omega⟩,fun s h1 h2=>by omega,Sm.refl.app,hG.app,by simp,by rw[hGe];exact hget_at0,by simp[hget_at]⟩ ?_
 rintro i τ ⟨⟨i1,i2⟩,hf,hs,g,hlen,c1,c2⟩ ih
 rw[hGe] at c1
 rcases Nat.eq_zero_or_pos k.left with h0 | hpos
 ·have h0':(k.left:Int)=0:=by omega
  have e0:strokeL j k.left k.p k.t k.r=0:=by rw[h0];rfl
  rw[e0] at hQ
  rcases(by omega:i=3∨i≤2) with rfl | hi
  ·simp -implicitDefEqProofs (maxSteps:=9^9) (disch:=omega) only[go_sem,simprocAttr,c1,c2,h0']
   exact hQ _ hs g
  ·simp -implicitDefEqProofs (maxSteps:=9^9) (disch:=omega) only[go_sem,simprocAttr,c1,c2,h0']
   exact hQ _ hs g
 ·obtain⟨n,hn⟩:∃n,k.left=n+1:=⟨k.left-1,by omega⟩
  have hpos':(0:Int)<(k.left:Int):=by omega
  rcases(by omega:i=3∨i≤2) with rfl | hi
  ·have e0:strokeL j k.left k.p k.t k.r=0:=by
    rw[strokeL_eq hn]
    have e1:=hf 1 (by omega) (by omega) hpos
    have e2:=hf 2 (by omega) (by omega) hpos
    rw[if_neg (by rw[show stOK j k 1=false from e1];simp),if_neg (by rw[show stOK j k 2=false from e2];simp)]
   rw[e0] at hQ
   simp -implicitDefEqProofs (maxSteps:=9^9) (disch:=omega) only[go_sem,simprocAttr,c1,c2,hpos']
   exact hQ _ hs g
  ·have hi12:(i:Int)=1∨(i:Int)=2:=by omega
   simp -implicitDefEqProofs (maxSteps:=9^9) (disch:=omega) only[go_sem,simprocAttr,c1,c2,hpos']
   refine moved_c j (winS j) (fnS a1 a2) rfl rfl k i hj hk.k (by omega) hi12 τ _ fun junk=>?_
   have hmk:mvK j k (i:Int)=mvK j k (i:Int):=rfl
   have hm2:=hk.mv hj.file hpos (i:Int)
   have hml:(mvK j k (i:Int)).left=n:=by unfold mvK;split<;> (simp only;omega)
   have hso:stOK j k (i:Int)=(okS j (mvK j k i).t (mvK j k i).r&&rdsK j (mvK j k i)):=rfl
   have hsq:=strokeL_eq (j:=j) hn
   generalize mvK j k (i:Int)=k1 at hm2 hml hso⊢
   have c1':hget (τ++junk) σ.length=_:=(hget_app (hget_lt c1)).trans c1
   have c2':hget (τ++junk) (σ.length+1)=_:=(hget_app (hget_lt c2)).trans c2
   have g':GH j a1 a2 mr (τ++junk):=g.app
   have hs':Sm mr σ (τ++junk):=hs.app
   have hlen':σ.length+2≤(τ++junk).length:=by simp;omega
   generalize τ++junk=τ1 at c1' c2' g' hs' hlen'⊢
   have ha1:∀o,hget (τ1++[o]) σ.length=_:=fun o=>(hget_app (hget_lt c1')).trans c1'
   have ha2:∀o,hget (τ1++[o]) (σ.length+1)=_:=fun o=>(hget_app (hget_lt c2')).trans c2'
   clear c1 c2 hG
   have next:∀τ',stOK j k (i:Int)=false→Sm mr σ τ'→GH j a1 a2 mr τ'→σ.length+2≤τ'.length→hget τ' σ.length=some (.cells G)→hget τ' (σ.length+1)=some (.cells [.int .i64 k.p.lo,.int .i64 k.p.hi,.int .i64 (k.t:Int),.int .i64 (k.r:Int),.int .i64 (k.left:Int)])→_:=fun τ' h1 h2 h3 h4 h5 h6=>ih (i+1) τ' (by omega) ⟨⟨by omega,by omega⟩,fun s q1 q2 q3=>by
    rcases(by omega:s<i∨s=i) with q | rfl
    ·exact hf s q1 q q3
    ·exact h1,h2,h3,h4,h5,h6⟩
   have hc1e:G=_:=hGe
   cases ho:okS j k1.t k1.r
   ·rw[ho,Bool.false_and] at hso
    simp only[Kn.av,Kn.cells]
    simp -implicitDefEqProofs (maxSteps:=9^9) (disch:=omega) only[go_sem,simprocAttr,ha1,ha2]
    refine(next _ hso hs'.app g'.app (by simp;omega) (by rw[hc1e];exact ha1 _) (ha2 _)).castS rfl (by simp[upd,ins,subF,lookA])
   ·rw[ho,Bool.true_and] at hso
    simp only[Kn.av,Kn.cells]
    simp -implicitDefEqProofs (maxSteps:=9^9) (disch:=omega) only[go_sem,simprocAttr,ha1,ha2]
    have hrd:=reads_c (S:=S) hj (hS n hn) k1 hm2 hml (τ1++[.cells [.int .i64 k1.p.lo,.int .i64 k1.p.hi,.int .i64 (k1.t:Int),.int .i64 (k1.r:Int),.int .i64 (k1.left:Int)]]) g'.app
    refine hrd _ fun τ3 s3 g3=>?_
    have o3:∀{q o},hget (τ1++[.cells [.int .i64 k1.p.lo,.int .i64 k1.p.hi,.int .i64 (k1.t:Int),.int .i64 (k1.r:Int),.int .i64 (k1.left:Int)]]) q=some o→q≠mr→hget τ3 q=some o:=fun h hm=>by rw[s3.2 _ (hget_lt h) hm];exact h
    have l3:=s3.1
    rw[List.length_append,List.length_singleton] at l3
    cases hr:rdsK j k1
    ·rw[hr] at hso
     simp -implicitDefEqProofs (maxSteps:=9^9) (disch:=omega) only[go_sem,simprocAttr]
     refine(next _ hso (hs'.app.trans s3) g3 (by omega) (by rw[hc1e];exact o3 (ha1 _) (by omega)) (o3 (ha2 _) (by omega))).castS rfl (by simp[upd,ins,subF,lookA])
    ·rw[hr] at hso
     simp -implicitDefEqProofs (maxSteps:=9^9) (disch:=omega) only[go_sem,simprocAttr]
     have e0:strokeL j k.left k.p k.t k.r=(i:Int):=by
      rw[hsq]
      rcases(by omega:i=1∨i=2) with rfl | rfl
      ·rw[if_pos (by exact hso)];rfl
      ·have e1:=hf 1 (by omega) (by omega) hpos
       rw[if_neg (by rw[show stOK j k 1=false from e1];simp),if_pos (by exact hso)];rfl
     rw[e0] at hQ
     exact hQ _ (hs'.app.trans s3) g3
def fs206(f:FuncId)(xs:List AV):Option AV:=if f=177 then rhas_s xs else fs205 f xs
theorem fs206_ok{S:MC Tryz.prog}:∀f xs v,fs206 f xs=some v→PureV S f xs v:=by
 intro f xs v h
 unfold fs206 at h
 split at h
 ·rename_i e;subst e;exact rhas_ok _ _ h
 exact fs205_ok _ _ _ h
attribute [go_sem] fs206 rhas_s
theorem stK_eq(j:Jb)(k:Kn):stK j k=(hasR (winS j) k.p||decide (0<strokeL j k.left k.p k.t k.r)):=stopsL_stroke j k.left k.p k.t k.r
theorem stops_c{j:Jb}(hj:OkJ j){a1 a2 mr:Nat}:∀n,StopsC (S:=S) j a1 a2 mr n:=by
 intro n
 induction n using Nat.strongRecOn with
 | _ n IH=>
 intro k hk hkn σ hG Q hQ
 obtain⟨m,hm,hmo⟩:=hG.hm
 have h1:=hG.h1
 have h2:=hG.h2
 simp only[Jb.cells,List.cons_append,List.nil_append] at h1
 have eK:k.av= .agg [.int .i64 k.p.lo,.int .i64 k.p.hi,.int .i64 (k.t:Int),.int .i64 (k.r:Int),.int .i64 (k.left:Int)]:=rfl
 refine AcE (Tryz.envOK (S:=S) 29 (fun _=>([],[])) fs206 fs206_ok) Tryz.kp205 Tryz.func205 rfl ?_
 simp only[Kn.av,Kn.cells]
 obtain⟨n1,n2,n3,n4,n5⟩:=hG.ne
 have q1:∀l,hget (σ++l) a1=_:=fun l=>(hget_app (hget_lt h1)).trans h1
 have q2:∀l,hget (σ++l) a2=_:=fun l=>(hget_app (hget_lt h2)).trans h2
 have q3:∀l,hget (σ++l) mr=_:=fun l=>(hget_app (hget_lt hm)).trans hm
 cases hh:hasR (winS j) k.p
 ·cases hg:gget m k with
  | some b=>
   have e:b=stK j k:=hmo _ (gget_mem hg)
   simp -implicitDefEqProofs (maxSteps:=9^9) (disch:=omega) only[go_sem,simprocAttr,Rng_eta,q1,q2,q3,hh,hg]
   rw[e]
   exact hQ _ Sm.refl.app hG.app
  | none=>
   simp -implicitDefEqProofs (maxSteps:=9^9) (disch:=omega) only[go_sem,simprocAttr,Rng_eta,q1,q2,q3,hh,hg]
   have hst:=stroke_c (S:=S) hj k hk (fun n' hn'=>IH n' (by omega)) (σ++[.cells [.int .i64 k.p.lo,.int .i64 k.p.hi,.int .i64 (k.t:Int),.int .i64 (k.r:Int),.int .i64 (k.left:Int)]]) hG.app
   refine hst _ fun τ3 s3 g3=>?_
   have o3:∀{q o},hget (σ++[.cells [.int .i64 k.p.lo,.int .i64 k.p.hi,.int .i64 (k.t:Int),.int .i64 (k.r:Int),.int .i64 (k.left:Int)]]) q=some o→q≠mr→hget τ3 q=some o:=fun h hm=>by rw[s3.2 _ (hget_lt h) hm];exact h
   have r1:=o3 (q1 _) (by omega)
   have r2:=o3 (q2 _) (by omega)
   have r4:=o3 (q:=σ.length) hget_at0 (by omega)
   obtain⟨m3,hm3,hmo3⟩:=g3.hm
   have e1:stK j k=decide (0<strokeL j k.left k.p k.t k.r):=by rw[stK_eq,hh,Bool.false_or]
   have fin:∀b,b=stK j k→Q (.bool b) (hset τ3 mr (.map (mapK (gset m3 k b)))):=fun b hb=>by
    subst hb
    refine hQ _ ((Sm.refl.app.trans s3).set (.inr rfl)) ?_
    exact g3.sm (Sm.refl.set (.inr rfl)) ⟨_,hget_set hm3 _,fun p hp=>by
     rcases gset_mem hp with rfl | hp
     ·rfl
     ·exact hmo3 p hp⟩
   generalize strokeL j k.left k.p k.t k.r=s at e1⊢
   simp -implicitDefEqProofs (maxSteps:=9^9) (disch:=omega) only[go_sem,simprocAttr,r1,r2,r4,hm3]
   exact⟨fun h=>fin _ (by rw[e1,decide_eq_true h]),fun h=>fin _ (by rw[e1,decide_eq_false h])⟩
 ·simp -implicitDefEqProofs (maxSteps:=9^9) (disch:=omega) only[go_sem,simprocAttr,Rng_eta,q1,q2,q3,hh]
  have e:stK j k=true:=by rw[stK_eq,hh];rfl
  rw[e] at hQ
  exact hQ _ Sm.refl.app hG.app
theorem play_c{j:Jb}(hj:OkJ j)(σ:List AObj)(Q:AV→List AObj→Prop)(h:∀junk a1 a2 mr,GH j a1 a2 mr (σ++junk)→σ.length≤a1→σ.length≤a2→σ.length≤mr→Q (gamev j (winS j) (fnS a1 a2)) (σ++junk)) :
  ACalls S 163 [j.av] σ Q:=by
 refine AcE (Tryz.envOK (S:=S) 19 (fun _=>([],[])) fs206 fs206_ok) Tryz.kp163 Tryz.func163 rfl ?_
 have hG:=fun junk a1 a2 mr=>h junk a1 a2 mr
 simp only[Jb.av,Jb.cells]
 simp -implicitDefEqProofs (maxSteps:=9^9) (disch:=omega) only[go_sem,simprocAttr,hj,Rng.av]
 refine h _ (σ.length+4) (σ.length+6) (σ.length+5) ⟨?_,?_,[],?_,?_⟩ (by omega) (by omega) (by omega)
 ·simp[hget_at,Jb.cells]
 ·simp[hget_at]
 ·simp[hget_at,mapK]
 ·intro p hp;cases hp
theorem jfewL_some{F:Nat→Bool}{n:Nat}(hn:n<5)(h:F n=true)(hl:∀s,s<n→F s=false):jfewL F=some n:=by
 unfold jfewL
 rw[List.find?_range_eq_some]
 exact⟨h,List.mem_range.2 hn,fun s hs=>by rw[hl s hs];rfl⟩
theorem jfewL_none{F:Nat→Bool}(hl:∀s,s<5→F s=false):jfewL F=none:=by
 unfold jfewL
 rw[List.find?_eq_none]
 intro s hs
 rw[hl s (List.mem_range.1 hs)];simp
def fewV:Option Nat→AV
 | some n=> .tup [.int .i64 (n:Int),.bool true]
 | none=> .tup [.int .i64 0,.bool false]
theorem fewest_c(g:FuncId)(cp:List AV)(F:Nat→Bool)(Inv:List AObj→Prop)(hg:∀n:Nat,n≤4→∀τ,Inv τ→∀Q:AV→List AObj→Prop,(∀τ',Inv τ'→Q (.bool (F n)) τ')→ACalls S g (.int .i64 (n:Int)::cp) τ Q)(σ:List AObj)(hI:Inv σ)(Q:AV→List AObj→Prop)(h:∀τ',Inv τ'→Q (fewV (jfewL F)) τ') :
  ACalls S 164 [.fn (.func g) [] cp] σ Q:=by
 refine AcE (Tryz.envOK (S:=S) 13 (fun _=>([],[])) fs0 fs0_ok) Tryz.kp164 Tryz.func164 rfl ?_
 simp -implicitDefEqProofs (maxSteps:=9^9) (disch:=omega) only[go_sem,simprocAttr]
 refine ARun.loopJ (Tryz.envOK (S:=S) 13 (fun _=>([],[])) fs0 fs0_ok) (α:=Nat) (fun i=>5-i) (fun i τ=>i≤5∧(∀s,s<i→F s=false)∧Inv τ) (fun i=>[(5,.int .i64 (i:Int))]) 0 (by kernel_rfl) (by simp[upd,ins,subF,lookA]) ⟨by omega,fun s hs=>by omega,hI⟩ ?_
 rintro i τ ⟨hi,hf,hv⟩ ih
 rcases(by omega:i=5∨i<5) with rfl | hlt
 ·rw[jfewL_none hf] at h
  simp -implicitDefEqProofs (maxSteps:=9^9) (disch:=omega) only[go_sem,simprocAttr]
  exact h τ hv
 ·have hlt':(i:Int)<5:=by omega
  simp -implicitDefEqProofs (maxSteps:=9^9) (disch:=omega) only[go_sem,simprocAttr,hlt']
  refine hg i (by omega) τ hv _ fun τ' hv'=>?_
  cases hb:F i
  ·simp -implicitDefEqProofs (maxSteps:=9^9) (disch:=omega) only[go_sem,simprocAttr]
   refine(ih (i+1) τ' (by omega) ⟨by omega,fun s hs=>?_,hv'⟩).castS rfl (by simp[upd,ins,subF,lookA])
   rcases(by omega:s<i∨s=i) with q | rfl
   ·exact hf s q
   ·exact hb
  ·rw[jfewL_some hlt hb hf] at h
   simp -implicitDefEqProofs (maxSteps:=9^9) (disch:=omega) only[go_sem,simprocAttr]
   exact h τ' hv'
theorem Jb.atk{j:Jb}(hj:OkJ j){n:Nat}(hn:n≤4):OkL ⟨j.pitch,0,0,n⟩:=by
 obtain⟨h1,h2,h3⟩:=hj.pitch
 exact⟨by simp only;omega,⟨by simp only;omega,by simp only;omega⟩,⟨by simp only;omega,by simp only;omega⟩,by simp only;omega,by simp only;omega⟩
structure PlI(j:Jb)(a1 a2 mr rg rj:Nat)(τ:List AObj):Prop where
 g:GH j a1 a2 mr τ
 gm:hget τ rg=some (.cells (j.cells++[.int .i64 (winS j).lo,.int .i64 (winS j).hi,fnS a1 a2]))
 jb:hget τ rj=some (.cells j.cells)
 n1:rg≠mr
 n2:rj≠mr
theorem PlI.sm{j:Jb}{a1 a2 mr rg rj:Nat}{τ τ':List AObj}(h:PlI j a1 a2 mr rg rj τ)(hs:Sm mr τ τ')(g:GH j a1 a2 mr τ'):PlI j a1 a2 mr rg rj τ':=
 ⟨g,(hs.2 _ (hget_lt h.gm) h.n1).trans h.gm,(hs.2 _ (hget_lt h.jb) h.n2).trans h.jb,h.n1,h.n2⟩
theorem guided1_c{j:Jb}(hj:OkJ j){a1 a2 mr rg rj:Nat}(n:Nat)(hn:n≤4)(σ:List AObj)(hI:PlI j a1 a2 mr rg rj σ)(Q:AV→List AObj→Prop)(h:∀τ',Sm mr σ τ'→PlI j a1 a2 mr rg rj τ'→Q (.bool (rdsK j ⟨j.pitch,0,0,n⟩)) τ') :
  ACalls S 165 [.int .i64 (n:Int),.ptr rg 0,.ptr rj 0] σ Q:=by
 refine AcE (Tryz.envOK (S:=S) 12 (fun _=>([],[])) fs206 fs206_ok) Tryz.kp165 Tryz.func165 rfl ?_
 have h1:=hI.gm
 have h2:=hI.jb
 simp only[Jb.cells,fnS,List.cons_append,List.nil_append] at h1 h2
 simp -implicitDefEqProofs (maxSteps:=9^9) (disch:=omega) only[go_sem,simprocAttr,h1,h2]
 refine reads_c hj (stops_c hj n) ⟨j.pitch,0,0,n⟩ (Jb.atk hj hn) rfl σ hI.g _ fun τ3 s3 g3=>?_
 simp -implicitDefEqProofs (maxSteps:=9^9) (disch:=omega) only[go_sem,simprocAttr]
 exact h τ3 s3 (hI.sm s3 g3)
theorem next1_c{j:Jb}(hj:OkJ j){a1 a2 mr rg rj:Nat}(n:Nat)(hn:n≤4)(σ:List AObj)(hI:PlI j a1 a2 mr rg rj σ)(Q:AV→List AObj→Prop)(h:∀τ',Sm mr σ τ'→PlI j a1 a2 mr rg rj τ'→Q (.bool (stK j ⟨j.pitch,0,0,n⟩)) τ') :
  ACalls S 167 [.int .i64 (n:Int),.ptr rg 0,.ptr rj 0] σ Q:=by
 refine AcE (Tryz.envOK (S:=S) 13 (fun _=>([],[])) fs206 fs206_ok) Tryz.kp167 Tryz.func167 rfl ?_
 have h1:=hI.gm
 have h2:=hI.jb
 simp only[Jb.cells,fnS,List.cons_append,List.nil_append] at h1 h2
 simp -implicitDefEqProofs (maxSteps:=9^9) (disch:=omega) only[go_sem,simprocAttr,h1,h2]
 refine stops_c hj n ⟨j.pitch,0,0,n⟩ (Jb.atk hj hn) rfl σ hI.g _ fun τ3 s3 g3=>?_
 simp -implicitDefEqProofs (maxSteps:=9^9) (disch:=omega) only[go_sem,simprocAttr]
 exact h τ3 s3 (hI.sm s3 g3)
def fs207(f:FuncId)(xs:List AV):Option AV:=if f=134 then jck_s xs else fs206 f xs
theorem fs207_ok{S:MC Tryz.prog}:∀f xs v,fs207 f xs=some v→PureV S f xs v:=by
 intro f xs v h
 unfold fs207 at h
 split at h
 ·rename_i e;subst e;exact jck_ok _ _ h
 exact fs206_ok _ _ _ h
attribute [go_sem] fs207 jck_s
def optV:Option Nat→Int×Int
 | some n=>((n:Int),0)
 | none=>(0,11)
theorem Sm.pre{mr:Nat}{σ J τ:List AObj}(h:Sm mr (σ++J) τ)(hm:σ.length≤mr):∃J',τ=σ++J':=by
 have hl:=h.1
 rw[List.length_append] at hl
 refine app_of_same (by omega) fun q hq=>?_
 rw[h.2 q (by rw[List.length_append];omega) (by omega)]
 exact hget_app hq
theorem guided_c{j:Jb}(hj:OkJ j)(σ:List AObj)(Q:AV→List AObj→Prop)(h:∀junk,Q (.tup [.int .i64 (optV (guidedS j)).1,.int .i64 (optV (guidedS j)).2]) (σ++junk)) :
  ACalls S 130 [j.av] σ Q:=by
 have hjav:∀t,j.av=t→PureV S 134 [t] (.int .i64 0):=fun t e=>e▸jck_p j hj
 refine AcE (Tryz.envOK (S:=S) 23 (fun _=>([],[])) fs207 fs207_ok) Tryz.kp130 Tryz.func130 rfl ?_
 simp only[Jb.av,Jb.cells]
 simp -implicitDefEqProofs (maxSteps:=9^9) (disch:=omega) only[go_sem,simprocAttr,hj]
 refine play_c hj _ _ fun junk a1 a2 mr hG b1 b2 b3=>?_
 simp only[gamev,Jb.cells,fnS,List.cons_append,List.nil_append]
 have hjc:hget (σ++[AObj.cells j.cells]++junk) σ.length=some (.cells j.cells):=by rw[List.append_assoc];exact hget_at0
 have hl1:σ.length<(σ++[AObj.cells j.cells]++junk).length:=by simp
 have hin:∃J,σ++[AObj.cells j.cells]++junk=σ++J:=⟨[AObj.cells j.cells]++junk,by rw[List.append_assoc]⟩
 simp only[List.length_append,List.length_singleton] at b1 b2 b3
 change GH j a1 a2 mr (σ++[AObj.cells j.cells]++junk) at hG
 simp only[Jb.cells] at hjc hl1 hin hG
 generalize σ++[_]++junk=τ at hjc hl1 hin hG⊢
 simp -implicitDefEqProofs (maxSteps:=9^9) (disch:=omega) only[go_sem,simprocAttr]
 obtain⟨J,rfl⟩:=hin
 have hlen:(σ++J).length=σ.length+J.length:=by simp
 have hP:PlI j a1 a2 mr (σ++J).length σ.length (σ++J++[.cells (j.cells++[.int .i64 (winS j).lo,.int .i64 (winS j).hi,fnS a1 a2])]):=
  ⟨hG.app,hget_at0,by rw[hget_app hl1];exact hjc,by have:=hG.ne;omega,by omega⟩
 simp only[Jb.cells,fnS,List.cons_append,List.nil_append] at hP
 have hgS:guidedS j=jfewL fun n=>rdsK j ⟨j.pitch,0,0,n⟩:=rfl
 generalize hτ:σ++J++[_]=τ0 at hP⊢
 have hpre:∀τ',Sm mr τ0 τ'→∃J',τ'=σ++J':=fun τ' hs=>by
  rw[← hτ,List.append_assoc] at hs
  exact hs.pre (by omega)
 refine fewest_c (165) [.ptr (σ++J).length 0,.ptr σ.length 0] (fun n=>rdsK j ⟨j.pitch,0,0,n⟩) (fun τ'=>PlI j a1 a2 mr (σ++J).length σ.length τ'∧Sm mr τ0 τ') (fun n hn τ' hv Q' hQ'=>guided1_c hj n hn τ' hv.1 Q' fun τ2 s2 p2=>hQ' τ2 ⟨p2,hv.2.trans s2⟩) _ ⟨hP,Sm.refl⟩ _ fun τ' hv=>?_
 rw[← hgS]
 obtain⟨J',hJ'⟩:=hpre τ' hv.2
 subst hJ'
 cases hgd:guidedS j with
 | none=>
  rw[hgd] at h
  simp only[fewV]
  simp -implicitDefEqProofs (maxSteps:=9^9) (disch:=omega) only[go_sem,simprocAttr]
  exact h _
 | some n=>
  rw[hgd] at h
  simp only[fewV]
  simp -implicitDefEqProofs (maxSteps:=9^9) (disch:=omega) only[go_sem,simprocAttr]
  exact h _
def nextV(j:Jb):Option Nat→Int×Int×Int
 | some 0=>(0,0,0)
 | some (n+1)=>(strokeL j (n+1) j.pitch 0 0,((n+1:Nat):Int),0)
 | none=>(0,0,11)
theorem jrnext_c{j:Jb}(hj:OkJ j)(σ:List AObj)(Q:AV→List AObj→Prop)(h:∀junk,Q (.tup [.int .i64 (nextV j (nextS j)).1,.int .i64 (nextV j (nextS j)).2.1,.int .i64 (nextV j (nextS j)).2.2]) (σ++junk)) :
  ACalls S 132 [j.av] σ Q:=by
 refine AcE (Tryz.envOK (S:=S) 35 (fun _=>([],[])) fs207 fs207_ok) Tryz.kp132 Tryz.func132 rfl ?_
 simp only[Jb.av,Jb.cells]
 simp -implicitDefEqProofs (maxSteps:=9^9) (disch:=omega) only[go_sem,simprocAttr,hj]
 refine play_c hj _ _ fun junk a1 a2 mr hG b1 b2 b3=>?_
 simp only[gamev,Jb.cells,fnS,List.cons_append,List.nil_append]
 have hjc:hget (σ++[AObj.cells j.cells]++junk) σ.length=some (.cells j.cells):=by rw[List.append_assoc];exact hget_at0
 have hl1:σ.length<(σ++[AObj.cells j.cells]++junk).length:=by simp
 have hin:∃J,σ++[AObj.cells j.cells]++junk=σ++J:=⟨[AObj.cells j.cells]++junk,by rw[List.append_assoc]⟩
 simp only[List.length_append,List.length_singleton] at b1 b2 b3
 change GH j a1 a2 mr (σ++[AObj.cells j.cells]++junk) at hG
 simp only[Jb.cells] at hjc hl1 hin hG
 generalize σ++[_]++junk=τ at hjc hl1 hin hG⊢
 simp -implicitDefEqProofs (maxSteps:=9^9) (disch:=omega) only[go_sem,simprocAttr]
 obtain⟨J,rfl⟩:=hin
 have hlen:(σ++J).length=σ.length+J.length:=by simp
 have hP:PlI j a1 a2 mr (σ++J).length σ.length (σ++J++[.cells (j.cells++[.int .i64 (winS j).lo,.int .i64 (winS j).hi,fnS a1 a2])]):=
  ⟨hG.app,hget_at0,by rw[hget_app hl1];exact hjc,by have:=hG.ne;omega,by omega⟩
 simp only[Jb.cells,fnS,List.cons_append,List.nil_append] at hP
 have hgS:nextS j=jfewL fun n=>stK j ⟨j.pitch,0,0,n⟩:=rfl
 generalize hτ:σ++J++[_]=τ0 at hP⊢
 have hpre:∀τ',Sm mr τ0 τ'→∃J',τ'=σ++J':=fun τ' hs=>by
  rw[← hτ,List.append_assoc] at hs
  exact hs.pre (by omega)
 refine fewest_c (167) [.ptr (σ++J).length 0,.ptr σ.length 0] (fun n=>stK j ⟨j.pitch,0,0,n⟩) (fun τ'=>PlI j a1 a2 mr (σ++J).length σ.length τ'∧Sm mr τ0 τ') (fun n hn τ' hv Q' hQ'=>next1_c hj n hn τ' hv.1 Q' fun τ2 s2 p2=>hQ' τ2 ⟨p2,hv.2.trans s2⟩) _ ⟨hP,Sm.refl⟩ _ fun τ' hv=>?_
 rw[← hgS]
 have hlt:∀n,nextS j=some n→n<5:=fun n hn=>by
  have:=List.mem_of_find?_eq_some hn;rwa [List.mem_range] at this
 cases hgd:nextS j with
 | none=>
  obtain⟨J',hJ'⟩:=hpre τ' hv.2
  subst hJ'
  rw[hgd] at h
  simp only[fewV]
  simp -implicitDefEqProofs (maxSteps:=9^9) (disch:=omega) only[go_sem,simprocAttr]
  exact h _
 | some n=>
  have hn5:=hlt n hgd
  rw[hgd] at h
  cases n with
  | zero=>
   obtain⟨J',hJ'⟩:=hpre τ' hv.2
   subst hJ'
   simp only[fewV]
   simp -implicitDefEqProofs (maxSteps:=9^9) (disch:=omega) only[go_sem,simprocAttr]
   exact h _
  | succ n=>
   have g1:=hv.1.gm
   have g2:=hv.1.jb
   simp only[Jb.cells,fnS,List.cons_append,List.nil_append] at g1 g2
   simp only[fewV]
   rw[hlen] at g1
   have hne:¬((n+1:Nat):Int)=0:=by omega
   simp -implicitDefEqProofs (maxSteps:=9^9) (disch:=omega) only[go_sem,simprocAttr,g1,g2,hne]
   refine stroke_c hj ⟨j.pitch,0,0,n+1⟩ (Jb.atk hj (by omega)) (fun n' _=>stops_c hj n') τ' hv.1.g _ fun τ3 s3 g3=>?_
   obtain⟨J',hJ'⟩:=hpre τ3 (hv.2.trans s3)
   subst hJ'
   simp -implicitDefEqProofs (maxSteps:=9^9) (disch:=omega) only[go_sem,simprocAttr]
   exact h _
end Go.Proofs
