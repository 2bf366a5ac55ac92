/- Texts of a proof: lemmas. -/
import Derived.Test.YtgbdndlmdklefaaGreatHK23
import Derived.Test.YtgbdndlmdklefaaGreatHK30
import Derived.Test.YtgbdndlmdklefaaGreatHK31
set_option linter.unusedSimpArgs false
set_option linter.unusedVariables false
set_option maxRecDepth 100000
set_option maxHeartbeats 40000000
namespace Go.Proofs
open Go Go.Mu
variable {S:MC Tryz.prog}
def Dr(r:Rd)(c:Int):Rd:=⟨r.kind,r.a,r.b,r.sec,⟨c,c⟩⟩
def cLo(n sl:Int):Int:=mx 0 (n/100-sl-1)
def cHi(n sl:Int):Int:=mn 25000 (n/100+sl+2)
def iC(r:Rd)(sl:Int)(t:List Int)(i:Nat):List Int:=((List.range i).map fun k:Nat=>cLo (tg t r.a*r.sec) sl+k).filter fun c=>isR (Dr r c) sl t
def eH(r:Rd)(sl:Int)(t:List Int):List Int:=
 if r.kind=1 then iC r sl t (cHi (tg t r.a*r.sec) sl-cLo (tg t r.a*r.sec) sl+1).toNat
 else if r.kind=2 then[im (tg t r.a) (tg t r.b)*r.sec/100] else[if isR r sl t then 1 else 0]
theorem Cl{r:Rd}{sl:Int}{t:List Int}{i:Nat}:iC r sl t (i+1)=iC r sl t i++(if isR (Dr r (cLo (tg t r.a*r.sec) sl+i)) sl t then[cLo (tg t r.a*r.sec) sl+i] else[]):=by
 simp only[iC,List.range_succ,List.map_append,List.filter_append,List.map_cons,List.map_nil,List.filter_cons,List.filter_nil]
theorem wI{r:Rd}{sl:Int}{t:List Int}{i:Nat}:(iC r sl t i).length≤i:=by
 unfold iC
 exact Nat.le_trans (List.length_filter_le _ _) (by simp)
theorem Kb(a b s x y sl:Int)(t:List Int)(hr:okR ⟨1,a,b,s,⟨x,y⟩⟩)(hsl:0≤sl∧sl≤3)(ht:t.length=3)(hs:small t):al S 208 [rdv ⟨1,a,b,s,⟨x,y⟩⟩ sl,tav t] (tIs.av (eH ⟨1,a,b,s,⟨x,y⟩⟩ sl t)):=by
 refine PvE (Tryz.ah (S:=S) 76 Tryz.nw fs5 ef) (Plain.ints) Tryz.xv Tryz.func208 rfl ?_
 intro σ
 simp only[rdv,tav,if_true]
 obtain⟨ha,hb,hsec,hx,hy⟩:=hr.2
 simp only at ha hb hsec hx hy
 have hn:=pD (dZ hs a) hsec
 obtain⟨q,hq⟩:∃q,(tg t a*s).tdiv 100=q:=⟨_,rfl⟩
 have hq2:q=tg t a*s/100:=by rw[← hq];exact Int.tdiv_eq_ediv_of_nonneg hn.1
 obtain⟨lo,hlo⟩:∃lo,(if 0<q-sl-1 then q-sl-1 else 0)=lo:=⟨_,rfl⟩
 obtain⟨hi,hhi⟩:∃hi,(if q+sl+2<25000 then q+sl+2 else 25000)=hi:=⟨_,rfl⟩
 have elo:cLo (tg t a*s) sl=lo:=by rw[← hlo,hq2];rfl
 have ehi:cHi (tg t a*s) sl=hi:=by rw[← hhi,hq2];rfl
 have blo:0≤lo∧lo≤300000:=by rw[← hlo];split<;> omega
 have bhi:0≤hi∧hi≤25000:=by rw[← hhi];split<;> omega
 simp -implicitDefEqProofs (maxSteps:=9^9) (disch:=omega) only[go_sem,simprocAttr,hq,hlo,sS]
 refine aj.ghost 7 1 (sz0:=0) rfl (by simp[ae]) ?_
 simp only[ins,↓reduceIte,List.append_assoc,List.cons_append,List.nil_append,List.length_append,List.length_cons,List.length_nil,Nat.zero_add,Nat.reduceEqDiff,Nat.reduceAdd]
 refine aj.kL (Tryz.ah (S:=S) 76 Tryz.nw fs5 ef) (hi-lo+1).toNat (fun i σ'=>∃x y j,σ'=σ++(.cells (t.map (AV.int .i64)):: .cells [.int .i64 1,.int .i64 a,.int .i64 b,.int .i64 s,.int .i64 x,.int .i64 y,.int .i64 sl]:: .tail (iC ⟨1,a,b,s,⟨x,y⟩⟩ sl t i).length 1::j)) (fun i=>[(7,.list (.own (σ.length+2)) 1 ((iC ⟨1,a,b,s,⟨x,y⟩⟩ sl t i).map (AV.int .i64))),(8,.int .i64 (lo+i))]) (by kernel_rfl) (by simp[upd,ins,aw,ae,iC]) ⟨x,y,[],by simp[iC]⟩ ?_ ?_
 ·rintro i σ' hi' ⟨x',y',j,rfl⟩ ih
  have hokc:okR ⟨1,a,b,s,⟨lo+i,lo+i⟩⟩:=⟨hr.1,ha,hb,hsec,by simp only;omega,by simp only;omega⟩
  have hsu:=Cl (r:=⟨1,a,b,s,⟨x,y⟩⟩) (sl:=sl) (t:=t) (i:=i)
  simp only[elo,Dr] at hsu
  have hol:=wI (r:=⟨1,a,b,s,⟨x,y⟩⟩) (sl:=sl) (t:=t) (i:=i)
  have hE:∀x' y' i,iC ⟨1,a,b,s,⟨x',y'⟩⟩ sl t i=iC ⟨1,a,b,s,⟨x,y⟩⟩ sl t i:=fun _ _ _=>rfl
  simp only[hE]
  cases hb2:isR ⟨1,a,b,s,⟨lo+i,lo+i⟩⟩ sl t
  ·rw[hb2] at hsu
   simp -implicitDefEqProofs (maxSteps:=9^9) (disch:=omega) only[go_sem,simprocAttr,hq,hlo,hhi,hokc,hs,hb2,sS,vu]
   refine(ih _ ⟨lo+i,lo+i,j,?_⟩).ay rfl (by simp[upd,ins,aw,ae,hsu,Int.add_assoc])
   simp[hE,hsu]
  ·rw[hb2] at hsu
   simp -implicitDefEqProofs (maxSteps:=9^9) (disch:=omega) only[go_sem,simprocAttr,hq,hlo,hhi,hokc,hs,hb2,sS,vu]
   refine(ih _ ⟨lo+i,lo+i,j,?_⟩).ay rfl (by simp[upd,ins,aw,ae,hsu,Int.add_assoc])
   simp[hE,hsu]
 ·rintro σ' ⟨x',y',j,rfl⟩
  simp -implicitDefEqProofs (maxSteps:=9^9) (disch:=omega) only[go_sem,simprocAttr,hq,hlo,hhi]
  exact⟨by simp[eH,elo,ehi],.inl rfl,.inl rfl⟩
theorem KQ(r:Rd)(sl:Int)(t:List Int)(hr:okR r)(hk:r.kind=2)(ht:t.length=3)(hs:small t):al S 208 [.iface 254 r.av,tav t] (tIs.av (eH r sl t)):=by
 refine PvE (Tryz.ah (S:=S) 76 Tryz.nw fs5 ef) (Plain.ints) Tryz.xv Tryz.func208 rfl ?_
 intro σ
 obtain⟨k,a,b,s,x,y⟩:=r
 simp only at hk
 subst hk
 simp only[Rd.av,tav]
 obtain⟨ha,hb,hsec,hx,hy⟩:=hr.2
 simp only at ha hb hsec hx hy
 have hn:=pD (vh (dZ hs a) (dZ hs b)) hsec
 have hq:(im (tg t a) (tg t b)*s).tdiv 100=im (tg t a) (tg t b)*s/100:=Int.tdiv_eq_ediv_of_nonneg hn.1
 simp -implicitDefEqProofs (maxSteps:=9^9) (disch:=omega) only[go_sem,simprocAttr,hs,hq]
 exact⟨by simp[eH],.inl rfl,.inl rfl⟩
theorem Kg(r:Rd)(sl:Int)(t:List Int)(hr:okR r)(hsl:0≤sl∧sl≤3)(hk:r.kind=3)(ht:t.length=3)(hs:small t):al S 208 [.iface 255 r.av,tav t] (tIs.av (eH r sl t)):=by
 refine PvE (Tryz.ah (S:=S) 76 Tryz.nw fs5 ef) (Plain.ints) Tryz.xv Tryz.func208 rfl ?_
 intro σ
 have hinv:=@wJ S 76 Tryz.nw fs5 (fun _=>⟨rfl,rfl,rfl⟩) r sl t
 have hrd:rdv r sl= .iface 255 r.av:=by simp[rdv,hk]
 rw[hrd] at hinv
 simp only[tav]
 cases hb:isR r sl t
 ·simp -implicitDefEqProofs (maxSteps:=9^9) (disch:=omega) only[go_sem,simprocAttr,hinv hr hsl ht hs,hb]
  exact⟨by simp[eH,hk,hb],.inl rfl,.inl rfl⟩
 ·simp -implicitDefEqProofs (maxSteps:=9^9) (disch:=omega) only[go_sem,simprocAttr,hinv hr hsl ht hs,hb]
  exact⟨by simp[eH,hk,hb],.inl rfl,.inl rfl⟩
theorem PB(r:Rd)(sl:Int)(t:List Int)(hr:okR r)(hsl:0≤sl∧sl≤3)(ht:t.length=3)(hs:small t):al S 208 [rdv r sl,tav t] (tIs.av (eH r sl t)):=by
 have hk:=hr.1
 rcases(by omega:r.kind=1∨r.kind=2∨r.kind=3) with k | k | k
 ·obtain⟨rk,a,b,s,x,y⟩:=r
  simp only at k
  subst k
  exact Kb a b s x y sl t hr hsl ht hs
 ·have:=KQ (S:=S) r sl t hr k ht hs
  simpa[rdv,k] using this
 ·have:=Kg (S:=S) r sl t hr hsl k ht hs
  simpa[rdv,k] using this
theorem Cz{r:Rd}{sl:Int}{t:List Int}:(eH r sl t).length≤30001:=by
 unfold eH
 split
 ·refine Nat.le_trans wI ?_
  have h1:0≤cLo (tg t r.a*r.sec) sl:=by unfold cLo mx;split<;> omega
  have h2:cHi (tg t r.a*r.sec) sl≤25000:=by unfold cHi mn;split<;> omega
  omega
 ·split<;> simp
end Go.Proofs
namespace Go.Proofs
open Go Go.Mu
end Go.Proofs
namespace Go.Proofs
open Go Go.Mu
variable {S:MC Tryz.prog}
def uy(t:List Int)(m:List (Int×List (List Int)))(k:Int):List (Int×List (List Int)):=eQ m k ((fR m k).getD []++[t])
def zR(r:Rd)(sl:Int)(m:List (Int×List (List Int)))(t:List Int):List (Int×List (List Int)):=(eH r sl t).foldl (uy t) m
def mb(r:Rd)(sl:Int)(l:List (List Int)):List (Int×List (List Int)):=l.foldl (zR r sl) []
abbrev MT:=List (Int×(Nat×List (List Int)))
def ez(m:MT):List (AV×AV):=m.map fun p=>(AV.int .i64 p.1,AV.list (.own p.2.1) 3 (p.2.2.map tav))
def strip(m:MT):List (Int×List (List Int)):=m.map fun p=>(p.1,p.2.2)
theorem nK{k:Int}:∀{m:MT} {i:Nat},en k (strip m) i=(en k m i).map fun q=>(q.1,q.2.2)
 | [],_=>rfl
 | (k',v)::m,i=>by
  simp only[strip,List.map_cons,en]
  split
  ·rfl
  ·exact nK (m:=m)
theorem td{k:Int}{m:MT}:fR (strip m) k=(fR m k).map (·.2):=by
 unfold fR;rw[nK];cases en k m 0<;> rfl
theorem te{k:Int}{m:MT}{v:Nat×List (List Int)}:strip (eQ m k v)=eQ (strip m) k v.2:=by
 unfold eQ;rw[nK]
 cases en k m 0 with
 | none=>simp[strip]
 | some q=>simp[strip,List.map_set]
theorem Ei{m:MT}{k:Int}{σ:List aa}(h:fR m k=none):gy false (.list .full 0 []) σ (bw (.int .i64 k) (ez m) 0)=some (.list .full 0 [],σ):=by
 have:=oV (f:=fun v:Nat×List (List Int)=>AV.list (.own v.1) 3 (v.2.map tav)) (m:=m) (k:=k) (ok:=false) (z:= .list .full 0 []) (σ:=σ)
 unfold ez;rw[this,h];rfl
theorem DI{m:MT}{k:Int}{σ:List aa}{v:Nat×List (List Int)}(h:fR m k=some v):gy false (.list .full 0 []) σ (bw (.int .i64 k) (ez m) 0)=some (.list (.own v.1) 3 (v.2.map tav),σ):=by
 have:=oV (f:=fun v:Nat×List (List Int)=>AV.list (.own v.1) 3 (v.2.map tav)) (m:=m) (k:=k) (ok:=false) (z:= .list .full 0 []) (σ:=σ)
 unfold ez;rw[this,h];rfl
theorem QN{m:MT}{k:Int}{r id:Nat}{ts:List (List Int)}{xs:List AV}{σ:List aa}(h:xs=ts.map tav):fL r (ez m) (.int .i64 k) (.list (.own id) 3 xs) σ (bw (.int .i64 k) (ez m) 0)=some (.tup [],ax σ r (.map (ez (eQ m k (id,ts))))):=by
 subst h
 exact zb (f:=fun v:Nat×List (List Int)=>AV.list (.own v.1) 3 (v.2.map tav)) (v:=(id,ts))
structure e8(B:Nat)(σ:List aa)(m:MT)(τ:List aa):Prop where
 len:σ.length<τ.length
 old:∀k,k<σ.length→ai τ k=ai σ k
 map:ai τ σ.length=some (.map (ez m))
 tl:∀p∈m,σ.length<p.2.1∧ai τ p.2.1=some (.tail p.2.2.length 3)∧p.2.2.length≤B
 nd:(m.map fun p=>p.2.1).Nodup
theorem e8.lt{B:Nat}{σ:List aa}{m:MT}{τ:List aa}(h:e8 B σ m τ){p:Int×(Nat×List (List Int))}(hp:p∈m):p.2.1<τ.length:=aN (h.tl p hp).2.1
theorem e8.app{B:Nat}{σ:List aa}{m:MT}{τ l:List aa}(h:e8 B σ m τ):e8 B σ m (τ++l):=
 ⟨by have:=h.len;simp;omega,fun k hk=>by rw[aB (by have:=h.len;omega)];exact h.old k hk,by rw[aB h.len];exact h.map,fun p hp=>⟨(h.tl p hp).1,by rw[aB (h.lt hp)];exact(h.tl p hp).2.1,(h.tl p hp).2.2⟩,h.nd⟩
theorem e8.mono{B C:Nat}{σ:List aa}{m:MT}{τ:List aa}(h:e8 B σ m τ)(hc:B≤C):e8 C σ m τ:=⟨h.len,h.old,h.map,fun p hp=>⟨(h.tl p hp).1,(h.tl p hp).2.1,Nat.le_trans (h.tl p hp).2.2 hc⟩,h.nd⟩
theorem e8.new{B:Nat}(hB:1≤B){σ:List aa}{m:MT}{τ:List aa}(h:e8 B σ m τ){k:Int}{t:List Int}(hg:fR m k=none):e8 B σ (eQ m k (τ.length,[t])) (ax (τ++[.tail 1 3]) σ.length (.map (ez (eQ m k (τ.length,[t]))))):=by
 have hf:en k m 0=none:=by unfold fR at hg;cases hx:en k m 0 with | none=>rfl | some q=>rw[hx] at hg;cases hg
 have hm:eQ m k (τ.length,[t])=m++[(k,(τ.length,[t]))]:=by unfold eQ;rw[hf]
 have hl:=h.len
 refine⟨by rw[aJ];simp;omega,fun q hq=>by rw[bt (by omega),aB (by omega)];exact h.old q hq,cN (by rw[aB hl];exact h.map) _,fun p hp=>?_,?_⟩
 ·rw[hm] at hp
  rcases List.mem_append.1 hp with hp | hp
  ·have h2:=h.tl p hp
   have h3:=h.lt hp
   exact⟨h2.1,by rw[bt (by omega),aB h3];exact h2.2.1,h2.2.2⟩
  ·simp at hp;subst hp
   exact⟨hl,by rw[bt (by simp only;omega)];exact a8,hB⟩
 ·rw[hm,List.map_append,List.nodup_append]
  refine⟨h.nd,by simp,fun a ha b hb=>?_⟩
  simp at hb;subst hb
  obtain⟨p,hp,rfl⟩:=List.mem_map.1 ha
  have:=h.lt hp
  omega
theorem e8.more{B:Nat}{σ:List aa}{m:MT}{τ:List aa}(h:e8 B σ m τ){k:Int}{t:List Int}{id:Nat}{ts:List (List Int)}(hg:fR m k=some (id,ts)) :
  e8 (B+1) σ (eQ m k (id,ts++[t])) (ax (ax τ id (.tail (ts.length+1) 3)) σ.length (.map (ez (eQ m k (id,ts++[t]))))):=by
 obtain⟨j,hf⟩:∃j,en k m 0=some (j,(id,ts)):=by
  unfold fR at hg
  cases hx:en k m 0 with
  | none=>rw[hx] at hg;cases hg
  | some q=>obtain⟨j,v⟩:=q;rw[hx] at hg;simp at hg;subst hg;exact⟨j,rfl⟩
 have hm:eQ m k (id,ts++[t])=m.set j (k,(id,ts++[t])):=by unfold eQ;rw[hf]
 have hj:=(sv hf).2
 simp only[Nat.sub_zero] at hj
 have hl:=h.len
 have hmem:(k,(id,ts))∈m:=List.mem_of_getElem? hj
 obtain⟨i1,i2,i3⟩:=h.tl _ hmem
 simp only at i1 i2 i3
 obtain⟨hjl,hje⟩:=List.getElem?_eq_some_iff.1 hj
 refine⟨by simp only[aJ];exact hl,fun q hq=>by rw[bt (by omega),bt (by omega)];exact h.old q hq,cN (by rw[bt (by omega)];exact h.map) _,fun p hp=>?_,?_⟩
 ·rw[hm] at hp
  obtain⟨i,hi,rfl⟩:=List.mem_iff_getElem.1 hp
  rw[List.getElem_set]
  by_cases e:j=i
  ·rw[if_pos e]
   exact⟨i1,by simp only;rw[bt (by omega)];simpa using cN i2 _,by simp;omega⟩
  ·rw[if_neg e]
   have hi':i<m.length:=by simpa using hi
   have h2:=h.tl _ (List.getElem_mem hi')
   have hne:m[i].2.1≠id:=fun e2=>by
    have:=h.nd
    rw[List.nodup_iff_pairwise_ne,List.pairwise_iff_getElem] at this
    rcases Nat.lt_or_gt_of_ne e with h4 | h4
    ·have:=this j i (by simpa using hjl) (by simpa using hi') h4
     simp[hje] at this;exact this e2.symm
    ·have:=this i j (by simpa using hi') (by simpa using hjl) h4
     simp[hje] at this;exact this e2
   exact⟨h2.1,by rw[bt (by omega),bt (fun e2=>hne e2.symm)];exact h2.2.1,by omega⟩
 ·have:(eQ m k (id,ts++[t])).map (fun p=>p.2.1)=m.map fun p=>p.2.1:=by
   rw[hm,List.map_set]
   apply List.ext_getElem?
   intro i
   rw[List.getElem?_set]
   by_cases e:j=i
   ·subst e;simp[hjl,hje]
   ·simp[e]
  rw[this];exact h.nd
theorem DW(r:Rd)(sl:Int)(l:List (List Int))(hr:okR r)(hsl:0≤sl∧sl≤3)(hl:l.length≤10000)(h3:∀t∈l,t.length=3∧small t)(σ:List aa)(Q:AV→List aa→Prop)(h:∀τ m,e8 300010000 σ m τ→strip m=mb r sl l→Q (.map σ.length) τ) :
  ao S 170 [eI l,rdv r sl] σ Q:=by
 refine AcE (Tryz.ah (S:=S) 36 (fun _=>([],[])) fs5 ef) Tryz.M8 Tryz.func170 rfl ?_
 simp only[eI]
 simp -implicitDefEqProofs (maxSteps:=9^9) (disch:=omega) only[go_sem,simprocAttr,tav]
 refine aj.kL (Tryz.ah (S:=S) 36 (fun _=>([],[])) fs5 ef) l.length (fun i τ=>∃m,e8 (i*30001) σ m τ∧strip m=(l.take i).foldl (zR r sl) []) (fun i=>[(13,.int .i64 i)]) (by kernel_rfl) (by simp[upd,ins,aw,ae]) ⟨[],⟨by simp,fun k hk=>aB hk,a8,by simp,by simp⟩,rfl⟩ ?_ ?_
 ·rintro i τ hi ⟨m,hO,hm⟩ ih
  have hmi:l[i]∈l:=List.getElem_mem hi
  obtain⟨h3i,hsi⟩:=h3 _ hmi
  rw[lb _ _ _ _ hi,← hm] at ih
  simp -implicitDefEqProofs (maxSteps:=9^9) (disch:=omega) only[go_sem,simprocAttr,tav]
  refine PB r sl l[i] hr hsl h3i hsi _ _ ?_
  simp only[tIs]
  have hsl2:=Cz (r:=r) (sl:=sl) (t:=l[i])
  simp -implicitDefEqProofs (maxSteps:=9^9) (disch:=omega) only[go_sem,simprocAttr,tav]
  refine aj.kL (Tryz.ah (S:=S) 36 (fun _=>([],[])) fs5 ef) (eH r sl l[i]).length (fun i2 τ2=>∃m2,e8 (i*30001+i2) σ m2 τ2∧strip m2=((eH r sl l[i]).take i2).foldl (uy l[i]) (strip m)∧ai τ2 τ.length=some (.cells (l[i].map (AV.int .i64)))) (fun i2=>[(21,.int .i64 i2)]) (by kernel_rfl) (by simp[upd,ins,aw,ae]) ⟨m,hO.app,rfl,a8⟩ ?_ ?_
  ·rintro i2 τ2 hi2 ⟨m2,hO2,hm2,hb⟩ ih2
   rw[lb _ _ _ _ hi2,← hm2] at ih2
   generalize hkk:(eH r sl l[i])[i2]=kk at ih2
   have hmap:=hO2.map
   cases hg:fR m2 kk with
   | none=>
    have hmap':∀l,ai (τ2++l) σ.length=some (.map (ez m2)):=fun l=>by rw[aB hO2.len];exact hmap
    have hu:∀r id σ,fL r (ez m2) (.int .i64 kk) (.list (.own id) 3 [.agg (l[i].map (AV.int .i64))]) σ (bw (.int .i64 kk) (ez m2) 0)=some (.tup [],ax σ r (.map (ez (eQ m2 kk (id,[l[i]]))))):=fun _ _ _=>QN rfl
    simp -implicitDefEqProofs (maxSteps:=9^9) (disch:=omega) only[go_sem,simprocAttr,tav,hkk,hmap,hmap',hb,Ei hg,hu]
    have hbl:=aN hb
    have hτ:σ.length<τ.length:=hO.len
    refine(ih2 _ ⟨_,(hO2.mono (by omega)).new (by omega) hg,?_,?_⟩).ay rfl (by simp[upd,ins,aw,ae])
    ·rw[te,uy,td,hg];rfl
    ·rw[bt (by omega),aB hbl];exact hb
   | some v=>
    obtain⟨id,ts⟩:=v
    obtain⟨t1,t2,t3⟩:=hO2.tl _ (yb hg)
    simp only at t1 t2 t3
    have hu:∀r id σ,fL r (ez m2) (.int .i64 kk) (.list (.own id) 3 (ts.map tav++[.agg (l[i].map (AV.int .i64))])) σ (bw (.int .i64 kk) (ez m2) 0)=some (.tup [],ax σ r (.map (ez (eQ m2 kk (id,ts++[l[i]]))))):=fun _ _ _=>QN (by simp[tav])
    have hmap':∀o,ai (ax τ2 id o) σ.length=some (.map (ez m2)):=fun o=>by rw[bt (by omega)];exact hmap
    simp -implicitDefEqProofs (maxSteps:=9^9) (disch:=omega) only[go_sem,simprocAttr,tav,hkk,hmap,hmap',hb,DI hg,hu,t2]
    have hbl:=aN hb
    have hτ:σ.length<τ.length:=hO.len
    have hne:id≠τ.length:=fun e=>by rw[e] at t2;rw[hb] at t2;cases t2
    refine(ih2 _ ⟨_,(hO2.more hg).mono (by omega),?_,?_⟩).ay rfl (by simp[upd,ins,aw,ae])
    ·rw[te,uy,td,hg];rfl
    ·rw[bt (by omega),bt hne];exact hb
  ·rintro τ2 ⟨m2,hO2,hm2,hb⟩
   rw[List.take_length] at hm2
   simp -implicitDefEqProofs (maxSteps:=9^9) (disch:=omega) only[go_sem,simprocAttr,tav]
   refine(ih τ2 ⟨m2,hO2.mono (by rw[Nat.succ_mul];omega),hm2⟩).ay rfl (by simp[upd,ins,aw,ae])
 ·rintro τ ⟨m,hO,hm⟩
  rw[List.take_length] at hm
  simp -implicitDefEqProofs (maxSteps:=9^9) (disch:=omega) only[go_sem,simprocAttr,tav]
  exact h τ m (hO.mono (by omega)) hm
end Go.Proofs
namespace Go.Proofs
open Go Go.Mu
theorem zd{r:Rd}{sl:Int}{l:List (List Int)}:∀p∈mb r sl l,p.2≠[]∧∀t∈p.2,t∈l:=by
 have key:∀(l0:List (List Int)) (m:List (Int×List (List Int))),(∀p∈m,p.2≠[]∧∀t∈p.2,t∈l)→(∀t∈l0,t∈l)→∀p∈l0.foldl (zR r sl) m,p.2≠[]∧∀t∈p.2,t∈l:=by
  intro l0
  induction l0 with
  | nil=>intro m h _;exact h
  | cons t l0 ih=>
   intro m h ht
   refine ih (zR r sl m t) ?_ (fun u hu=>ht u (by simp[hu]))
   have htl:=ht t (by simp)
   unfold zR
   generalize eH r sl t=ks
   clear ih
   induction ks generalizing m with
   | nil=>exact h
   | cons k ks ih=>
    refine ih (m:=uy t m k) fun p hp=>?_
    rcases KJ hp with rfl | hp
    ·refine⟨by simp,fun u hu=>?_⟩
     rcases List.mem_append.1 hu with hu | hu
     ·cases hg:fR m k with
      | none=>rw[hg] at hu;simp at hu
      | some v=>rw[hg] at hu;exact(h _ (yb hg)).2 u hu
     ·simp at hu;subst hu;exact htl
    ·exact h p hp
 exact key l [] (by simp) (fun t ht=>ht)
def l7(sl:Int)(l:List (List Int))(x width s:Int):Bool:=(mb ⟨1,x,0,s,⟨0,0⟩⟩ sl l).all fun p=>decide ((bH (fun t=>tg t x) p.2).hi- (bH (fun t=>tg t x) p.2).lo≤width)
def iy(m x width:Int):Int:=if 0≤x∧x≤m-1 then(if width<0 then 1 else 0) else 3
def kN(e:Ear)(x width:Int):Int×Int:=
 if(c8 e (iy e.tones.length x width)).2=0 then
  (match (List.range 20).find? (fun k:Nat=>l7 e.slack (aF e) x width (k+1)) with
  | some k=>((k:Int)+1,0)
  | none=>(0,11))
 else(0,(c8 e (iy e.tones.length x width)).2)
theorem Dk{f:Nat→Bool}{i n:Nat}(hi:i<n)(h:∀k,k<i→f k=false)(hf:f i=true):(List.range n).find? f=some i:=by
 rw[List.find?_range_eq_some]
 exact⟨hf,by simpa using hi,fun j hj=>by simp[h j hj]⟩
theorem H5{f:Nat→Bool}{n:Nat}(h:∀k,k<n→f k=false):(List.range n).find? f=none:=by
 rw[List.find?_eq_none]
 intro x hx
 simp at hx
 simp[h x hx]
theorem Bj{l:List (List Int)}(h:∀t∈l,small t)(hl:l≠[])(x:Int):0≤(bH (fun t=>tg t x) l).lo∧(bH (fun t=>tg t x) l).lo≤1000000∧0≤(bH (fun t=>tg t x) l).hi∧(bH (fun t=>tg t x) l).hi≤1000000:=by
 have key:∀(l:List (List Int)) (y:Rng),(∀t∈l,small t)→(0≤y.lo∧y.lo≤1000000∧0≤y.hi∧y.hi≤1000000)→(0≤(l.foldl (cD fun t=>tg t x) y).lo∧(l.foldl (cD fun t=>tg t x) y).lo≤1000000∧0≤(l.foldl (cD fun t=>tg t x) y).hi∧(l.foldl (cD fun t=>tg t x) y).hi≤1000000):=by
  intro l
  induction l with
  | nil=>intro y _ hy;exact hy
  | cons t l ih=>
   intro y ht hy
   refine ih _ (fun u hu=>ht u (by simp[hu])) ?_
   have:=dZ (ht t (by simp)) x
   simp only[cD,mn,mx]
   refine⟨?_,?_,?_,?_⟩<;> split<;> omega
 obtain⟨t,l,rfl⟩:∃t l',l=t::l':=by cases l with | nil=>exact absurd rfl hl | cons a b=>exact⟨a,b,rfl⟩
 have:=dZ (h t (by simp)) x
 exact key _ _ h (by simp only[List.headD_cons];omega)
theorem aj.eL{E:Env}(hE:cm E){ro:Option Nat}{c:Code}{k:List Item}{kp:Nat→Bool}{tm sl:List (Nat×AV)}{σ:List aa}{Q:au}{α:Type}(m:α→Nat)(J:α→List aa→Prop)(lv:α→List (Nat×AV))(x0:α)
  (hO:dG E (.code c:: .inLoop c::k)=true) (h0:aw (upd sl (lv x0)) sl) (hJ:J x0 σ)
  (hs:∀x τ,J x τ→(∀y τ',m y<m x→J y τ'→aj E ro (.inLoop c::k) ⟨kp,[],upd sl (lv y)⟩ τ' Q)→ev E ro 100000 (.code c:: .inLoop c::k) ⟨kp,[],upd sl (lv x)⟩ τ Q):aj E ro (.code (.loop c)::k) ⟨kp,tm,sl⟩ σ Q:=by
 have key:∀n x τ,m x=n→J x τ→aj E ro (.code c:: .inLoop c::k) ⟨kp,[],upd sl (lv x)⟩ τ Q:=by
  intro n
  induction n using Nat.strongRecOn with
  | _ n ih=>
   intro x τ hm hj
   exact aR hE hO (hs x τ hj fun y τ' hlt hy=> .inLoop (ih (m y) (by omega) y τ' rfl hy))
 exact .loop (aj.sub (key _ x0 σ rfl hJ) h0)
theorem fy{X:AV→List aa→Prop}{τ:List aa}{r q c:Nat}{seen:List Nat}{es:List (AV×AV)}(hg:ai τ r=some (.iter (some q) c seen))(hq:ai τ q=some (.map es))(hc:c=es.length)
  (h1:∀i k v,es[i]? = some (k,v)→i∉seen→X (.tup [.bool true,k,v]) (ax τ r (.iter (some q) c (seen++[i])))) (h2:(∀i,i<es.length→i∈seen)→X (.tup [.bool false]) τ):iF X τ (some (.ptr r 0)):=by
 unfold iF
 simp only[hg,hq]
 exact⟨hc,h1,h2⟩
theorem r7:∀{n:Nat} {l:List Nat},l.Nodup→(∀i∈l,i<n)→l.length≤n
 | 0,l,_,hl=>by
  cases l with
  | nil=>simp
  | cons a l=>have:=hl a (by simp);omega
 | n+1,l,h,hl=>by
  by_cases hm:n∈l
  ·have h1:(l.erase n).length≤n:=r7 (h.erase n) fun i hi=>by
    have h2:=hl i (List.mem_of_mem_erase hi)
    have h3:i≠n:=(List.Nodup.mem_erase_iff h).1 hi |>.1
    omega
   rw[List.length_erase_of_mem hm] at h1
   omega
  ·have:=r7 h fun i hi=>by
    have h2:=hl i hi
    have h3:i≠n:=fun e=>hm (e▸hi)
    show i<n
    omega
   omega
end Go.Proofs
namespace Go.Proofs
open Go Go.Mu Go.Ins
variable {S:MC Tryz.prog}
theorem AI{E:Env}{all os:List Oper}{dst:Option Tmp}{op:Op}{type:TypeId}{pos:String}{after:Array Edge}{fr:Fr}{σ:List aa}{Q:Fr→List aa→Prop}:ed E all 0 (⟨dst,op,type,pos,after,none⟩::os) fr σ Q=qw E fr σ op (cz E all os dst fr Q):=by
 have e:bK all fr none=some true:=rfl
 simp only[ed,e,true_implies,Bool.true_eq_false,false_implies,and_true,forall_const]
attribute [go_sem] AI zk CZ DZ IH Ia Ft
def bh(l:List (List Int)):List (AV×AV):=l.map fun x=>(rtv x,.bool true)
theorem UX(a b c d e f g h:Int):eV (rtv [a,b,c,d]) (rtv [e,f,g,h])=some (decide ([a,b,c,d]=[e,f,g,h])):=by
 simp only[rtv,List.map_cons,List.map_nil,eV,dT,Option.map_some,List.length_cons,List.length_nil,if_true,Option.some.injEq]
 rw[Bool.eq_iff_iff]
 simp
theorem mF{x:List Int}(h:x.length=4):∃a b c d,x=[a,b,c,d]:=by
 match x,h with
 | [a,b,c,d],_=>exact⟨a,b,c,d,rfl⟩
theorem Lw{x y:List Int}(hx:x.length=4)(hy:y.length=4):eV (rtv x) (rtv y)=some (decide (x=y)):=by
 obtain⟨a,b,c,d,rfl⟩:=mF hx
 obtain⟨e,f,g,h,rfl⟩:=mF hy
 exact UX ..
theorem uB{x:List Int}(hx:x.length=4):∀{m:List (List Int)} {i:Nat},(∀y∈m,y.length=4)→x∉m→bw (rtv x) (bh m) i=some none
 | [],i,_,_=>rfl
 | y::m,i,hm,h=>by
  simp only[bh,List.map_cons,bw]
  rw[Lw hx (hm y (by simp)),decide_eq_false (fun e=>h (by simp[e]))]
  exact uB hx (fun z hz=>hm z (by simp[hz])) (fun hz=>h (by simp[hz]))
theorem sE{x:List Int}(hx:x.length=4):∀{m:List (List Int)} {i:Nat},(∀y∈m,y.length=4)→x∈m→∃j,m[j]? = some x∧bw (rtv x) (bh m) i=some (some (i+j,.bool true))
 | [],i,_,h=>by simp at h
 | y::m,i,hm,h=>by
  by_cases e:x=y
  ·subst e
   refine⟨0,rfl,?_⟩
   simp only[bh,List.map_cons,bw]
   rw[Lw hx hx,decide_eq_true rfl];rfl
  ·obtain⟨j,h1,h2⟩:=sE (i:=i+1) hx (fun z hz=>hm z (by simp[hz])) ((List.mem_cons.1 h).resolve_left e)
   refine⟨j+1,by simpa using h1,?_⟩
   simp only[bh,List.map_cons,bw]
   rw[Lw hx (hm y (by simp)),decide_eq_false e]
   rw[show i+(j+1)=i+1+j by omega]
   exact h2
theorem Vv{x:List Int}(hx:x.length=4){m:List (List Int)}(hm:∀y∈m,y.length=4){r:Nat}{σ:List aa}:fL r (bh m) (rtv x) (.bool true) σ (bw (rtv x) (bh m) 0)=some (.tup [],ax σ r (.map (bh (cM m x)))):=by
 by_cases h:x∈m
 ·obtain⟨j,h1,h2⟩:=sE (i:=0) hx hm h
  rw[h2,cM,if_pos h]
  have:(bh m).set j (rtv x,.bool true)=bh m:=by
   apply List.ext_getElem?
   intro k
   rw[List.getElem?_set]
   split
   ·rename_i e;subst e
    have hj:=List.getElem?_eq_some_iff.1 h1
    simp[bh,hj.1,hj.2]
   ·rfl
  simp only[fL,Nat.zero_add,this]
 ·rw[uB hx hm h,cM,if_neg h]
  simp[fL,bh]
theorem wy{p:List Int→Prop}:∀{l m:List (List Int)},(∀y∈m,p y)→(∀y∈l,p y)→∀y∈l.foldl cM m,p y:=by
 intro l m hm hl y hy
 rcases fB.1 hy with h | h
 ·exact hm y h
 ·exact hl y h
def eD(r:Ros)(ds:List (List Int))(many n:Nat):List (List Int):=((List.range n).filter fun s=>eB s==many).flatMap (dw r ds)
def cf(r:Ros)(ds:List (List Int))(many:Nat):List (List Int):=eD r ds many (2^r.hands.toNat)
def fO(r:Ros)(ds:List (List Int)):Nat→Nat→List (List Int)
 | 0,_=>[]
 | n+1,k=>if cf r ds k=[] then fO r ds n (k+1) else(cf r ds k).foldl cM []
def aE(r:Ros)(ds:List (List Int)):List (List Int):=fO r ds (r.hands.toNat+1) 0
theorem qL{r:Ros}{ds:List (List Int)}{many n:Nat}:eD r ds many (n+1)=eD r ds many n++if eB n=many then dw r ds n else[]:=by
 unfold eD
 rw[List.range_succ,List.filter_append,List.flatMap_append]
 by_cases h:eB n=many
 ·simp[h]
 ·simp[h]
theorem qY{r:Ros}(hr:r.Head){ds:List (List Int)}{s:Nat}{u:List Int}(hu:u∈dw r ds s):OkX r u:=vR hr (List.mem_filter.1 hu).1
theorem wA{r:Ros}(hr:r.Head){ds:List (List Int)}{many n:Nat}{u:List Int}(hu:u∈eD r ds many n):OkX r u:=by
 obtain⟨s,_,hs⟩:=List.mem_flatMap.1 hu
 exact qY hr hs
theorem rX{l:List (List Int)}:l.foldl cM []=[]↔l=[]:=by
 constructor
 ·intro h
  cases l with
  | nil=>rfl
  | cons x l=>
   have:x∈(x::l).foldl cM []:=fB.2 (.inr (by simp))
   rw[h] at this;simp at this
 ·rintro rfl;rfl
theorem zA{r:Ros}(hr:r.Head){ds:List (List Int)}:∀{n k:Nat} {u:List Int},u∈fO r ds n k→OkX r u
 | 0,k,u,h=>by simp[fO] at h
 | n+1,k,u,h=>by
  simp only[fO] at h
  split at h
  ·exact zA hr h
  ·rcases fB.1 h with h | h
   ·simp at h
   ·exact wA hr h
theorem zi{r:Ros}(hr:r.Head){ds:List (List Int)}{u:List Int}(h:u∈aE r ds):OkX r u:=zA hr h
theorem qi{r:Ros}(hr:r.Head){ds:List (List Int)}{s:Nat}:(dw r ds s).length≤14641:=Nat.le_trans (List.length_filter_le _ _) (tJ hr s)
theorem sD{r:Ros}(hr:r.Head){ds:List (List Int)}{many:Nat}:∀n,(eD r ds many n).length≤n*14641
 | 0=>by simp[eD]
 | n+1=>by
  rw[qL,List.length_append]
  have:=sD hr (ds:=ds) (many:=many) n
  split
  ·have:=qi hr (ds:=ds) (s:=n);omega
  ·simp;omega
theorem P4(r:Ros)(ds:List (List Int))(hr:Cu r ds){σ:List aa}{Q:AV→List aa→Prop}(h:∀j,Q (.map (σ.length+1)) (σ++(.cells (r.az ds):: .map (bh (aE r ds))::j))):ao S 136 [r.wav ds] σ Q:=by
 refine AcE (Tryz.ah (S:=S) 44 (fun _=>([],[])) cq bm) Tryz.Mg Tryz.func136 rfl ?_
 have hh:=hr.hands
 have hH:(r.hands.toNat:Int)=r.hands:=by omega
 have hw1:IntKind.i64.wrap (r.hands+1)=r.hands+1:=wrap64 (by omega) (by omega)
 simp only[Ros.wav]
 simp -implicitDefEqProofs (maxSteps:=9^9) (disch:=omega) only[go_sem,simprocAttr,hw1]
 refine aj.zq (r.hands.toNat+1) (fun i τ=>∃j,τ=σ++(.cells (r.az ds):: .map []::j)∧aE r ds=fO r ds (r.hands.toNat+1-i) i) (fun i=>[(13,.int .i64 i)]) (by simp[upd,ins,aw,ae]) ⟨[],by simp[Ros.az],rfl⟩ ?_ ?_
 ·rintro i τ hi ⟨j,rfl,hE⟩ ih
  have hE1:aE r ds=if cf r ds i=[] then fO r ds (r.hands.toNat+1- (i+1)) (i+1) else(cf r ds i).foldl cM []:=by
   rw[hE,show r.hands.toNat+1-i=(r.hands.toNat+1- (i+1))+1 by omega];rfl
  clear hE
  have hsh:IntKind.u64.wrap (1*2^min r.hands.toNat 64)=((2^r.hands.toNat:Nat):Int):=by
   have e1:min r.hands.toNat 64=r.hands.toNat:=by omega
   have hp:(2:Nat)^r.hands.toNat≤2^4:=Nat.pow_le_pow_right (by omega) (by omega)
   rw[e1,Int.one_mul]
   have:((2:Int)^r.hands.toNat)=((2^r.hands.toNat:Nat):Int):=by push_cast;rfl
   rw[this,nk,Nat.mod_eq_of_lt (by omega)]
  refine aR (Tryz.ah (S:=S) 44 (fun _=>([],[])) cq bm) (n:=1000) (by kernel_rfl) ?_
  simp -implicitDefEqProofs (maxSteps:=9^9) (disch:=omega) only[go_sem,simprocAttr,Ros.az,hsh]
  refine aj.zq (2^r.hands.toNat) (fun n τ=>∃j2,τ=σ++(.cells (r.az ds):: .map (bh ((eD r ds i n).foldl cM []))::j2)) (fun n=>[(20,.int .u64 n)]) (by simp[upd,ins,aw,ae]) ⟨j,by simp[Ros.az,eD,bh]⟩ ?_ ?_
  ·rintro n τ hn ⟨j2,rfl⟩ ih2
   have hn16:n<16:=by
    have hp:(2:Nat)^r.hands.toNat≤2^4:=Nat.pow_le_pow_right (by omega) (by omega)
    omega
   have hwn:IntKind.u64.wrap ((n:Int)+1)=((n+1:Nat):Int):=by rw[show((n:Int)+1)=((n+1:Nat):Int) by push_cast;rfl,nk,Nat.mod_eq_of_lt (by omega)]
   rw[qL,List.foldl_append] at ih2
   refine aR (Tryz.ah (S:=S) 44 (fun _=>([],[])) cq bm) (n:=1000) (by kernel_rfl) ?_
   by_cases hc:eB n=i
   ·rw[if_pos hc] at ih2
    simp -implicitDefEqProofs (maxSteps:=9^9) (disch:=omega) only[go_sem,simprocAttr,Ros.az,hwn,hc]
    refine IP r ds hr n hn16 _ _ ?_
    have hTl:=qi hr.toHead (ds:=ds) (s:=n)
    have hTo:∀u∈dw r ds n,u.length=4:=fun u hu=>(qY hr.toHead hu).len
    have hFo:∀u∈(eD r ds i n).foldl cM [],u.length=4:=wy (p:=fun u=>u.length=4) (by simp) fun u hu=>(wA hr.toHead hu).len
    generalize dw r ds n=TL at hTl hTo ih2⊢
    generalize (eD r ds i n).foldl cM []=F0 at hFo ih2⊢
    simp -implicitDefEqProofs (maxSteps:=9^9) (disch:=omega) only[go_sem,simprocAttr,Ros.az,hwn,hc]
    refine aj.bE (Tryz.ah (S:=S) 44 (fun _=>([],[])) cq bm) TL.length (fun _=>True) (fun k=>[(31,.int .i64 k)]) (fun k j3=>σ++(.cells (r.az ds):: .map (bh ((TL.take k).foldl cM F0))::j3)) j2 (by kernel_rfl) (by simp[Ros.az]) (by simp[upd,ins,aw,ae]) trivial ?_ ?_
    ·intro k j3 hk _ ih3
     rw[jo hk] at ih3
     have hxl:=hTo _ (List.getElem_mem hk)
     have hFk:∀u∈(TL.take k).foldl cM F0,u.length=4:=wy (p:=fun u=>u.length=4) hFo fun u hu=>hTo u (List.mem_of_mem_take hu)
     have hidx:idx (TL.map rtv) (k:Int)=some (rtv TL[k]):=bu hk
     generalize (TL.take k).foldl cM F0=F1 at hFk ih3⊢
     have hup:=fun(r0:Nat) (σ0:List aa)=>@Vv _ hxl _ hFk r0 σ0
     obtain⟨a,b,c,d,hx⟩:=mF hxl
     rw[hx] at hidx ih3 hup
     simp only[rtv,List.map_cons,List.map_nil] at hidx hup
     simp -implicitDefEqProofs (maxSteps:=9^9) (disch:=omega) only[go_sem,simprocAttr,Ros.az,hidx,hup]
     exact(ih3 trivial (j3++[_])).ay rfl (by simp[upd,ins,aw,ae])
    ·intro j3 _
     rw[List.take_length]
     simp -implicitDefEqProofs (maxSteps:=9^9) (disch:=omega) only[go_sem,simprocAttr,Ros.az,hwn]
     exact(ih2 _ ⟨j3,rfl⟩).ay rfl (by simp[upd,ins,aw,ae])
   ·rw[if_neg hc] at ih2
    have hc':((eB n:Int)=i)=False:=by simp;omega
    simp -implicitDefEqProofs (maxSteps:=9^9) (disch:=omega) only[go_sem,simprocAttr,Ros.az,hwn,hc']
    exact(ih2 _ ⟨j2,rfl⟩).ay rfl (by simp[upd,ins,aw,ae])
  ·rintro τ ⟨j2,rfl⟩
   have hF:(eD r ds i (2^r.hands.toNat)).foldl cM []=(cf r ds i).foldl cM []:=rfl
   rw[hF]
   have hwi:IntKind.i64.wrap ((i:Int)+1)=((i+1:Nat):Int):=by rw[wrap64 (by omega) (by omega)];rfl
   refine aR (Tryz.ah (S:=S) 44 (fun _=>([],[])) cq bm) (n:=6) (by kernel_rfl) ?_
   simp -implicitDefEqProofs (maxSteps:=9^9) (disch:=omega) only[go_sem,simprocAttr,Ros.az]
   change aj _ _ _ _ _ _
   refine aj.BZ (Tryz.ah (S:=S) 44 (fun _=>([],[])) cq bm) 1 ?_
   by_cases hz:cf r ds i=[]
   ·rw[if_pos hz] at hE1
    have hz':(cf r ds i).foldl cM []=[]:=rX.2 hz
    rw[hz']
    have hml:(bh []).length=0:=rfl
    simp -implicitDefEqProofs (maxSteps:=9^9) (disch:=omega) only[go_sem,simprocAttr,Ros.az,hml]
    refine aR (Tryz.ah (S:=S) 44 (fun _=>([],[])) cq bm) (n:=1000) (by kernel_rfl) ?_
    simp -implicitDefEqProofs (maxSteps:=9^9) (disch:=omega) only[go_sem,simprocAttr,Ros.az,hml,hwi]
    exact(ih _ ⟨j2,rfl,hE1⟩).ay rfl (by simp[upd,ins,aw,ae])
   ·rw[if_neg hz] at hE1
    have hz':(cf r ds i).foldl cM []≠[]:=fun e=>hz (rX.1 e)
    rw[← hE1] at hz'⊢
    have hml:(bh (aE r ds)).length=(aE r ds).length:=by simp[bh]
    have hpos:(0:Int)<((aE r ds).length:Int):=by have:=List.length_pos_iff.2 hz';omega
    simp -implicitDefEqProofs (maxSteps:=9^9) (disch:=omega) only[go_sem,simprocAttr,Ros.az,hml]
    refine aR (Tryz.ah (S:=S) 44 (fun _=>([],[])) cq bm) (n:=1000) (by kernel_rfl) ?_
    simp -implicitDefEqProofs (maxSteps:=9^9) (disch:=omega) only[go_sem,simprocAttr,Ros.az,hml]
    exact h j2
 ·rintro τ ⟨j,rfl,hE⟩
  have hE1:aE r ds=[]:=by rw[hE,Nat.sub_self];rfl
  refine aR (Tryz.ah (S:=S) 44 (fun _=>([],[])) cq bm) (n:=1000) (by kernel_rfl) ?_
  have hlt:((r.hands.toNat+1:Nat):Int)=r.hands+1:=by omega
  simp -implicitDefEqProofs (maxSteps:=9^9) (disch:=omega) only[go_sem,simprocAttr]
  have:=h j;rw[hE1] at this;exact this
def bitsOf(p:Nat→Bool):Nat→Nat
 | 0=>0
 | n+1=>bitsOf p n+if p n then 2^n else 0
theorem gD(p:Nat→Bool):∀n,bitsOf p n<2^n
 | 0=>by simp[bitsOf]
 | n+1=>by
  have:=gD p n
  simp only[bitsOf,Nat.pow_succ]
  split<;> omega
theorem dM(p:Nat→Bool):∀n i,(bitsOf p n).testBit i=(decide (i<n)&&p i)
 | 0,i=>by simp[bitsOf]
 | n+1,i=>by
  have hl:=gD p n
  have ih:=dM p n i
  simp only[bitsOf]
  by_cases hp:p n
  ·rw[if_pos hp,Nat.add_comm]
   rcases(by omega:i<n∨i=n∨n<i) with h | h | h
   ·rw[Nat.testBit_two_pow_add_gt h,ih];simp[h,Nat.lt_succ_of_lt h]
   ·subst h
    rw[Nat.testBit_two_pow_add_eq,ih];simp[hp]
   ·rw[Nat.testBit_lt_two_pow]
    ·simp;omega
    ·have:2^(n+1)≤2^i:=Nat.pow_le_pow_right (by omega) (by omega)
     rw[Nat.pow_succ] at this;omega
  ·rw[if_neg hp,Nat.add_zero,ih]
   rcases(by omega:i<n∨i=n∨n<i) with h | h | h
   ·simp[h,Nat.lt_succ_of_lt h]
   ·subst h;simp[hp]
   ·have h1:decide (i<n)=false:=decide_eq_false (by omega)
    have h2:decide (i<n+1)=false:=decide_eq_false (by omega)
    rw[h1,h2]
theorem GG(p:Nat→Bool)(n:Nat):bitsOf p n|||2^n=bitsOf p n+2^n:=by
 have:=Nat.two_pow_add_eq_or_of_lt (gD p n) 1
 rw[Nat.mul_one] at this
 rw[Nat.or_comm,← this,Nat.add_comm]
def fa(x:List Int):Nat:=bitsOf (fun i=>decide (tg x i≠0)) 4
def df(s:Nat):List Int:=((List.range 4).filter fun n=>s.testBit n).map fun(n:Nat)=>(n:Int)
theorem Iq(x:List Int):fa x<16:=gD _ 4
theorem DJ(x:List Int)(hx:x.length=4):al S 137 [rtv x] (.int .u64 (fa x)):=by
 refine PvE (Tryz.ah (S:=S) 22 (fun _=>([],[])) cq bm) (.int) Tryz.Me Tryz.func137 rfl ?_
 intro σ
 obtain⟨a,b,c,d,rfl⟩:=mF hx
 simp only[rtv,List.map_cons,List.map_nil]
 simp -implicitDefEqProofs (maxSteps:=9^9) (disch:=omega) only[go_sem,simprocAttr]
 refine⟨fun h=>by rw[h];rfl,fun _=>?_⟩
 have e:[AV.int .i64 a,.int .i64 b,.int .i64 c,.int .i64 d]=[a,b,c,d].map (AV.int .i64):=rfl
 rw[e]
 clear e
 generalize [a,b,c,d]=x at hx⊢
 refine aj.bE (Tryz.ah (S:=S) 22 (fun _=>([],[])) cq bm) 4 (fun _=>True) (fun i=>[(3,.int .u64 (bitsOf (fun i=>decide (tg x i≠0)) i)),(11,.int .i64 i)]) (fun _ _=>σ++[.cells (x.map (.int .i64))]) [] (by kernel_rfl) rfl (by simp[upd,ins,aw,ae,bitsOf]) trivial ?_ ?_
 ·intro i j hi _ ih
  have hb:=gD (fun i=>decide (tg x i≠0)) i
  have hb4:bitsOf (fun i=>decide (tg x i≠0)) i<65536:=by
   have:(2:Nat)^i≤2^4:=Nat.pow_le_pow_right (by omega) (by omega)
   omega
  have hwi:IntKind.i64.wrap ((i:Int)+1)=((i+1:Nat):Int):=by rw[wrap64 (by omega) (by omega)];rfl
  have hor:=GG (fun i=>decide (tg x i≠0)) i
  have hsu:bitsOf (fun i=>decide (tg x i≠0)) (i+1)=bitsOf (fun i=>decide (tg x i≠0)) i+if decide (tg x i≠0)=true then 2^i else 0:=rfl
  rw[hsu] at ih
  generalize bitsOf (fun i=>decide (tg x i≠0)) i=B at *
  have hidx:(x.map (AV.int .i64))[i]? = some (.int .i64 (tg x i)):=by
   have:=@E3 x (i:Int) (by omega) (by omega)
   simpa using this
  by_cases hz:tg x i=0
  ·have hz':(tg x i=0)=True:=eq_true hz
   rw[if_neg (by simp[hz])] at ih
   simp -implicitDefEqProofs (maxSteps:=9^9) (disch:=omega) only[go_sem,simprocAttr,hz',hwi,hidx]
   exact(ih trivial []).ay rfl (by simp[upd,ins,aw,ae])
  ·have hz':(tg x i=0)=False:=eq_false hz
   rw[if_pos (by simp[hz])] at ih
   simp -implicitDefEqProofs (maxSteps:=9^9) (disch:=omega) only[go_sem,simprocAttr,hz',hwi,hor,hidx]
   exact(ih trivial []).ay rfl (by simp[upd,ins,aw,ae])
 ·intro j _
  simp -implicitDefEqProofs (maxSteps:=9^9) (disch:=omega) only[go_sem,simprocAttr]
  rfl
theorem FC(s:Nat)(hs:s<16):al S 112 [.int .u64 s] (ar (df s)):=by
 refine PvE (Tryz.ah (S:=S) 20 (fun _=>([],[])) cq bm) ((cA (df s)).2) Tryz.Nz Tryz.func112 rfl ?_
 intro σ
 simp -implicitDefEqProofs (maxSteps:=9^9) (disch:=omega) only[go_sem,simprocAttr]
 refine aj.ghost 3 1 (sz0:=0) rfl (by simp[ae]) ?_
 simp only[ins,↓reduceIte,Nat.reduceEqDiff]
 refine aj.bE (Tryz.ah (S:=S) 20 (fun _=>([],[])) cq bm) 4 (fun _=>True) (fun i=>[(3,.list (.own σ.length) 1 ((((List.range i).filter fun n=>s.testBit n).map fun(n:Nat)=>(n:Int)).map (.int .i64))),(8,.int .i64 i)]) (fun i _=>σ++[.tail (((List.range i).filter fun n=>s.testBit n).map fun(n:Nat)=>(n:Int)).length 1]) [] (by kernel_rfl) rfl (by simp[upd,ins,aw,ae]) trivial ?_ ?_
 ·intro i j hi _ ih
  have hlen:(((List.range i).filter fun n=>s.testBit n).map fun(n:Nat)=>(n:Int)).length≤i:=by
   rw[List.length_map];exact Nat.le_trans (List.length_filter_le _ _) (by simp)
  have hwi:IntKind.i64.wrap ((i:Int)+1)=((i+1:Nat):Int):=by rw[wrap64 (by omega) (by omega)];rfl
  have hsu:(((List.range (i+1)).filter fun n=>s.testBit n).map fun(n:Nat)=>(n:Int))=(((List.range i).filter fun n=>s.testBit n).map fun(n:Nat)=>(n:Int))++if s.testBit i then[(i:Int)] else[]:=by
   rw[List.range_succ,List.filter_append,List.map_append]
   cases h:s.testBit i<;> simp[h]
  rw[hsu] at ih
  generalize (((List.range i).filter fun n=>s.testBit n).map fun(n:Nat)=>(n:Int))=L at *
  cases hb:s.testBit i
  ·rw[hb] at ih
   simp -implicitDefEqProofs (maxSteps:=9^9) (disch:=omega) only[go_sem,simprocAttr,hb,hwi]
   exact(ih trivial []).ay (by simp) (by simp[upd,ins,aw,ae])
  ·rw[hb] at ih
   simp -implicitDefEqProofs (maxSteps:=9^9) (disch:=omega) only[go_sem,simprocAttr,hb,hwi]
   exact(ih trivial []).ay (by simp) (by simp[upd,ins,aw,ae])
 ·intro j _
  simp -implicitDefEqProofs (maxSteps:=9^9) (disch:=omega) only[go_sem,simprocAttr,ar]
  rfl
def zf:=cW tI tI fun x y=>some (.int .i64 (if x=y then 0 else if x<y then -1 else 1))
theorem Ov:∀xs v,zf xs=some v→al S 180 xs v:=by
 refine cj fun x y v h=>?_
 simp only[Option.some.injEq] at h;subst h
 refine PvE (Tryz.ah (S:=S) 20 (fun _=>([],[])) qB rQ) (.int) Tryz.Nh Tryz.func180 rfl ?_
 intro σ
 simp only[tI]
 simp -implicitDefEqProofs (maxSteps:=9^9) (disch:=omega) only[go_sem,simprocAttr]
 refine⟨fun h=>by rw[if_neg (by omega),if_pos h],fun h=>⟨fun h2=>by rw[if_neg (by omega),if_neg h],fun h2=>by rw[if_pos (by omega)]⟩⟩
def qx(f:FuncId)(xs:List AV):Option AV:=if f=180 then zf xs else cq f xs
theorem rO{S:MC Tryz.prog}:∀f xs v,qx f xs=some v→al S f xs v:=by
 intro f xs v h
 unfold qx at h
 split at h
 ·rename_i e;subst e;exact Ov _ _ h
 exact bm _ _ _ h
attribute [go_sem] qx zf
theorem Rv(a b:List Int)(ha:a.length≤1000000)(hb:b.length≤1000000):al S 139 [ar a,ar b] (.int .i64 (cI a b)):=by
 refine PvE (Tryz.ah (S:=S) 36 (fun _=>([],[])) qx rO) (.int) Tryz.Mm Tryz.func139 rfl ?_
 intro σ
 simp only[ar]
 simp -implicitDefEqProofs (maxSteps:=9^9) (disch:=omega) only[go_sem,simprocAttr]
 refine aj.bE (Tryz.ah (S:=S) 36 (fun _=>([],[])) qx rO) a.length (fun i=>cI (a.drop i) (b.drop i)=cI a b) (fun i=>[(11,.int .i64 i)]) (fun _ _=>σ) [] (by kernel_rfl) rfl (by simp[upd,ins,aw,ae]) (by simp) ?_ ?_
 ·intro i j hi hp ih
  by_cases hb2:i<b.length
  ·rw[FP hi hb2] at hp
   have hge:(b.length≤i)=False:=eq_false (by omega)
   by_cases he:a[i]=b[i]
   ·rw[if_pos he] at hp
    have he':(a[i]=b[i])=True:=eq_true he
    simp -implicitDefEqProofs (maxSteps:=9^9) (disch:=omega) only[go_sem,simprocAttr,hge,he']
    exact(ih hp []).ay rfl (by simp[upd,ins,aw,ae])
   ·rw[if_neg he] at hp
    have he':(a[i]=b[i])=False:=eq_false he
    rw[← hp]
    by_cases hl:a[i]<b[i]
    ·have hl':(a[i]<b[i])=True:=eq_true hl
     simp -implicitDefEqProofs (maxSteps:=9^9) (disch:=omega) only[go_sem,simprocAttr,hge,he',hl']
    ·have hl':(a[i]<b[i])=False:=eq_false hl
     simp -implicitDefEqProofs (maxSteps:=9^9) (disch:=omega) only[go_sem,simprocAttr,hge,he',hl']
  ·rw[Ij hi (by omega)] at hp
   rw[← hp]
   have hge:(b.length≤i)=True:=eq_true (by omega)
   simp -implicitDefEqProofs (maxSteps:=9^9) (disch:=omega) only[go_sem,simprocAttr,hge]
 ·intro j hp
  by_cases hl:a.length<b.length
  ·rw[Fv hl] at hp
   rw[← hp]
   have hl':(a.length<b.length)=True:=eq_true hl
   simp -implicitDefEqProofs (maxSteps:=9^9) (disch:=omega) only[go_sem,simprocAttr,hl']
  ·rw[Gy hl] at hp
   rw[← hp]
   have hl':(a.length<b.length)=False:=eq_false hl
   simp -implicitDefEqProofs (maxSteps:=9^9) (disch:=omega) only[go_sem,simprocAttr,hl']
def yd:=cW tIs tIs fun a b=>if a.length≤1000000∧b.length≤1000000 then some (.int .i64 (cI a b)) else none
theorem PU:∀xs v,yd xs=some v→al S 139 xs v:=
 cj fun a b v h=>by have h:=b7 h;rw[← h.2];exact Rv a b h.1.1 h.1.2
def eJ(f:FuncId)(xs:List AV):Option AV:=if f=139 then yd xs else qx f xs
theorem dv{S:MC Tryz.prog}:∀f xs v,eJ f xs=some v→al S f xs v:=by
 intro f xs v h
 unfold eJ at h
 split at h
 ·rename_i e;subst e;exact PU _ _ h
 exact rO _ _ _ h
attribute [go_sem] eJ yd
end Go.Proofs
