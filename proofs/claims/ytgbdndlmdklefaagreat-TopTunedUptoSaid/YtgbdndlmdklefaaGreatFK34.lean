/- Texts of a proof: lemmas. -/
import Derived.Test.YtgbdndlmdklefaaGreatFK33
import Derived.Test.YtgbdndlmdklefaaGreatFK29
set_option linter.unusedSimpArgs false
set_option linter.unusedVariables false
set_option maxRecDepth 100000
set_option maxHeartbeats 40000000
namespace Go.Proofs
open Go Go.Mu Go.Ins
theorem fewL_of{r:Ros}(hg:r.Good)(hro:rosE r=0)(hk:knownE r []=0):∃m,m≤r.hands.toNat∧fewL r=hdue r m∧hdue r m≠[]∧∀j,j<m→hdue r j=[]:=by
 have hne:=explR_ne hk
 rcases explR_spec r (entsL r) with⟨h,_⟩ | ⟨m,g1,g2,g3,g4⟩
 ·exact absurd h hne
 ·have h1:hdue r m≠[]:=fun e=>g3 ((found_due hg.toHead g1).2 e)
  have h0:∀j,j<m→hdue r j=[]:=fun j hj=>(found_due hg.toHead (by omega)).1 (g4 j hj)
  exact⟨m,g1,(fewL_some hg hro g1 h1 h0).2,h1,h0⟩
theorem hdue_len{r:Ros}{m:Nat}{x:List Int}(h:x∈hdue r m):x.length=m:=(hcomb_mem (List.mem_filter.1 h).1).1
theorem hdue_sub{r r2:Ros}(hh:r2.hands=r.hands)(hs:∀s u,u∈htruthsR r2 (entsL r2) s→u∈htruthsR r (entsL r) s){m:Nat}{x:List Int}(h:x∈hdue r2 m):x∈hdue r m:=by
 unfold hdue at h⊢
 rw[hh] at h
 rw[List.mem_filter,decide_eq_true_eq] at h⊢
 refine⟨h.1,?_⟩
 obtain⟨u,hu⟩:=List.exists_mem_of_ne_nil _ h.2
 exact List.ne_nil_of_mem (hs _ _ hu)
theorem few_more{r r2:Ros}(hg:r.Good)(hro:rosE r=0)(hk:knownE r []=0)(hg2:r2.Good)(hro2:rosE r2=0)(hk2:knownE r2 []=0)(hh:r2.hands=r.hands)(hs:∀s u,u∈htruthsR r2 (entsL r2) s→u∈htruthsR r (entsL r) s) :
  ∃m m2,m≤m2∧(∀x∈fewL r,x.length=m)∧(∀x∈fewL r2,x.length=m2)∧fewL r≠[]∧fewL r2≠[]∧(m2=m→∀x∈fewL r2,x∈fewL r):=by
 obtain⟨m,a1,a2,a3,a4⟩:=fewL_of hg hro hk
 obtain⟨m2,b1,b2,b3,b4⟩:=fewL_of hg2 hro2 hk2
 refine⟨m,m2,?_,fun x hx=>hdue_len (by rw[← a2];exact hx),fun x hx=>hdue_len (by rw[← b2];exact hx),by rw[a2];exact a3,by rw[b2];exact b3,fun e x hx=>?_⟩
 ·refine Nat.le_of_not_lt fun c=>?_
  obtain⟨x,hx⟩:=List.exists_mem_of_ne_nil _ b3
  have:=hdue_sub hh hs hx
  rw[a4 m2 c] at this;simp at this
 ·rw[a2,← e];rw[b2] at hx;exact hdue_sub hh hs hx
def entB(r:Ros)(x:Tn)(d u:List Int):Bool:=(List.range r.hands.toNat).any fun(h:Nat)=>if 0≤x.hand∧x.hand≠(h:Int) then false else d.any fun e=>decide (-r.skill≤e-offX r u h x.day∧e-offX r u h x.day≤r.skill)
theorem isB_ent{r:Ros}{ds:List (List Int)}{u:List Int}:isB r ds u=(List.range r.ents.length).all fun i=>entB r (r.ents.getD i default) (ds.getD i []) u:=rfl
theorem few_cons{r r2:Ros}(hg:r.Good)(hro:rosE r=0)(hk:knownE r []=0)(hg2:r2.Good)(hro2:rosE r2=0)(hk2:knownE r2 []=0)(hh:r2.hands=r.hands)(hs:∀s u,u∈htruthsR r2 (entsL r2) s→u∈htruthsR r (entsL r) s){f0:List Int}{F:List (List Int)}(hF:fewL r=f0::F) :
  ∃g0 G,fewL r2=g0::G∧f0.length≤g0.length∧g0.length≤4∧G.length≤5∧(∀x∈g0::G,x.length≤4)∧(g0.length=f0.length→∀x∈g0::G,x∈f0::F):=by
 obtain⟨m,m2,h1,h2,h3,h4,h5,h6⟩:=few_more hg hro hk hg2 hro2 hk2 hh hs
 obtain⟨g0,G,hG⟩:=List.exists_cons_of_ne_nil h5
 rw[hF] at h2 h6
 obtain⟨q1,q2⟩:=fewL_few r2
 rw[hG] at h3 h6 q1 q2
 have a:=h2 f0 (by simp)
 have b:=h3 g0 (by simp)
 refine⟨g0,G,hG,by omega,q2 g0 (by simp),by simp at q1;omega,q2,fun e=>h6 (by omega)⟩
theorem idx0(a:AV)(l:List AV):idx (a::l) 0=some a:=rfl
end Go.Proofs
namespace Go.Proofs
open Go Go.Mu Go.Ins
variable {S:MC Tryz.prog}
theorem truths_f(e:Ear)(he:OkE e)(σ:List AObj)(Q:AV→List AObj→Prop)(h:∀junk,2≤junk.length→IterF S 203 [] [.ptr σ.length 0,.ptr (σ.length+1) 0] (fun k=>k=σ.length∨k=σ.length+1) (σ++junk) ((truthsL e).map tav)→Q (.fn (.func 203) [] [.ptr σ.length 0,.ptr (σ.length+1) 0]) (σ++junk)) :
  ACalls S 159 [e.av] σ Q:=by
 refine AcE (Tryz.envOK (S:=S) 22 Tryz.ord159 fs5 fs5_ok) Tryz.kp159 Tryz.func159 rfl ?_
 have hrl:=he.rl
 simp only[Ear.av]
 simp -implicitDefEqProofs (maxSteps:=9^9) (disch:=omega) only[go_sem,simprocAttr]
 refine ARun.ghostC (σ.length+1) 1 (sz0:=0) (by simp[hget_at]) ?_
 simp only[hset_at,List.set_cons_succ,List.set_cons_zero,List.append_assoc,List.cons_append,List.nil_append,List.length_append,List.length_cons,List.length_nil,Nat.zero_add]
 refine ARun.forS (Tryz.envOK (S:=S) 22 Tryz.ord159 fs5 fs5_ok) e.rds.length (fun _=>True) (fun i=>[(9,.int .i64 i)]) (fun i j=>σ++(.cells e.cells:: .cells [.list (.own (σ.length+2)) 1 ((e.rds.take i).map fun r=>rdv r e.slack)]:: .tail i 1::j)) [] (by kernel_rfl) (by simp[Ear.cells]) (by simp[upd,ins,subF,lookA]) trivial ?_ ?_
 ·intro i j hi _ ih
  have hcl:∀r,(rdv r e.slack).cells=[rdv r e.slack]:=fun r=>by unfold rdv;split;rfl;split<;> rfl
  have hfl:∀r,(rdv r e.slack).flat=true:=fun r=>by unfold rdv;split;rfl;split<;> rfl
  have htl:(List.take i e.rds).length=i:=by rw[List.length_take];omega
  simp -implicitDefEqProofs (maxSteps:=9^9) (disch:=omega) only[go_sem,simprocAttr,Ear.cells,Rd.av,hcl,hfl,htl,giveB_rdv]
  refine(ih trivial (j++[_])).castS (by rw[List.take_succ_eq_append_getElem hi,List.map_append];rfl) (by simp[upd,ins,subF,lookA])
 ·intro j _
  simp -implicitDefEqProofs (maxSteps:=9^9) (disch:=omega) only[go_sem,simprocAttr,Ear.cells]
  refine h _ (by simp) fun r T σ' hk hC=>?_
  have:=truths1_c (S:=S) e he T (re:=σ.length) (rl:=σ.length+1) (τ:=σ') (by rw[(hk _ (.inl rfl)).1];simp[hget_at0,Ear.cells]) ⟨_,by rw[(hk _ (.inr rfl)).1,hget_at,List.take_length];rfl⟩ ⟨(hk _ (.inl rfl)).2,(hk _ (.inr rfl)).2⟩ hC rfl
  simpa using this
theorem ck_more{e:Ear}{r:Rd}(hc:ck e=0)(hr:ckR r e.tones.length=0)(hn:e.rds.length≤5):ck ⟨e.slack,e.tones,e.rds++[r]⟩= 0:=by
 have h2:=firstE_all (f:=fun r=>ckR r e.tones.length) (l:=e.rds) (by simp only[ck] at hc;grind)
 have h3:firstE (fun r=>ckR r e.tones.length) (e.rds++[r])=0:=firstE_zero fun i hi=>by
  rcases List.mem_append.1 (List.getElem_mem hi) with hm | hm
  ·exact h2 _ hm
  ·simp at hm;rw[hm];exact hr
 simp only[ck] at hc⊢
 rw[h3,List.length_append]
 simp only[List.length_cons,List.length_nil]
 grind
def mayL(e:Ear):Bool:= !(truthsL e).isEmpty
theorem may_p(e:Ear)(hc:ck e=0):PureV S 129 [e.av] (.bool (mayL e)):=by
 refine PvE (Tryz.envOK (S:=S) 6 (fun _=>([],[])) fs408 fs408_ok) (.bool) Tryz.kp129 Tryz.func129 rfl ?_
 intro σ
 have he:=okE_of_ck hc
 simp only[Ear.av]
 simp -implicitDefEqProofs (maxSteps:=9^9) (disch:=omega) only[go_sem,simprocAttr]
 refine truths_f e he _ _ fun junk hj hI=>?_
 simp only[List.append_assoc,List.cons_append,List.nil_append,List.length_append,List.length_cons,List.length_nil,Nat.zero_add,Nat.reduceAdd,Nat.add_assoc] at hI⊢
 simp -implicitDefEqProofs (maxSteps:=9^9) (disch:=omega) only[go_sem,simprocAttr]
 refine ARun.rangeIterF (g:=203) (p:=[]) (L:=(truthsL e).map tav) (by simp[aeval,Fr.get,lookA,Tryz.kp129]) hI (fun k hk=>⟨rfl,by simp;omega⟩) ⟨5,rfl,by simp[Tryz.EN]⟩
  (fun k=>k=σ.length+1) (fun k hk=>⟨by omega,by simp;omega⟩) (fun D τ=>D=[]∧hget τ (σ.length+1)=some (.cells [.bool false])) (fun j τ=>j= .ret∧truthsL e≠[]∧hget τ (σ.length+1)=some (.cells [.bool true]))
  ⟨rfl,by simp[hget_at]⟩ (fun{D τ τ'} hc hk=>⟨hc.1,by rw[hk _ rfl];exact hc.2⟩) (fun{j τ τ'} hc hk=>⟨hc.1,hc.2.1,by rw[hk _ rfl];exact hc.2.2⟩) ?_ ?_ ?_
 ·rintro D v R fn τ hD ⟨_,c1⟩ hlt hrec
  have hne:truthsL e≠[]:=fun h=>by rw[h] at hD;simp at hD
  refine ev_sound (Tryz.envOK (S:=S) 6 (fun _=>([],[])) fs408 fs408_ok) (n:=1000) (by kernel_rfl) ?_
  simp -implicitDefEqProofs (maxSteps:=9^9) (disch:=omega) only[go_sem,simprocAttr,frIn]
  refine ARun.beginRound' (by simpa using hrec) fun τ2 hl2 hs2 hr2=>?_
  simp only[List.length_append,List.length_cons,List.length_nil] at hlt hr2 hs2
  have k1:hget τ2 (σ.length+1)=some (.cells [.bool false]):=by rw[hs2 _ (by omega)];exact c1
  refine ev_sound (Tryz.envOK (S:=S) 6 (fun _=>([],[])) fs408 fs408_ok) (n:=1000) (by kernel_rfl) ?_
  simp -implicitDefEqProofs (maxSteps:=9^9) (disch:=omega) only[go_sem,simprocAttr,k1,hget_hset]
  refine⟨⟨by rw[length_hset];omega,fun q hq hm=>by rw[hget_ne (by omega),hs2 q (by omega)]⟩,⟨none,hr2⟩,.ret,rfl,fun t ht=>(by cases ht),rfl,hne⟩
 ·rintro τ hlt hold ⟨hL,c1⟩
  have hL':truthsL e=[]:=by simpa using hL
  have hm:mayL e=false:=by simp[mayL,hL']
  have k1:=fun o=>hget_set c1 o
  refine ev_sound (Tryz.envOK (S:=S) 6 (fun _=>([],[])) fs408 fs408_ok) (n:=1000) (by kernel_rfl) ?_
  simp -implicitDefEqProofs (maxSteps:=9^9) (disch:=omega) only[go_sem,simprocAttr,c1,k1]
  rw[hm]
  simp only[List.length_append,List.length_cons,List.length_nil] at hlt hold
  exact gives_same (by rw[length_hset];omega) (fun q hq=>by rw[hget_ne (by omega),hold q (by omega) (by omega)];exact hget_app hq) rfl
 ·rintro τ j hlt hold ⟨rfl,hne,c1⟩
  refine ev_sound (Tryz.envOK (S:=S) 6 (fun _=>([],[])) fs408 fs408_ok) (n:=1000) (by kernel_rfl) ?_
  simp -implicitDefEqProofs (maxSteps:=9^9) (disch:=omega) only[go_sem,simprocAttr,c1]
  have hm:mayL e=true:=by simp[mayL,hne]
  rw[hm]
  simp only[List.length_append,List.length_cons,List.length_nil] at hlt hold
  exact gives_same (by omega) (fun q hq=>by rw[hold q (by omega) (by omega)];exact hget_app hq) rfl
def may_s:=spec1 tEar fun e=>if ck e=0 then some (.bool (mayL e)) else none
theorem may_ok:∀xs v,may_s xs=some v→PureV S 129 xs v:=
 spec1_ok fun e v h=>by have h:=someIf h;rw[← h.2];exact may_p e h.1
theorem cloneRng_p(l:List Rng)(hl:l.length≤4294967296):PureV S 120 [.list .no 2 (l.map Rng.av)] (.list .no 2 (l.map Rng.av)):=by
 refine PvE (Tryz.envOK (S:=S) 8 (fun _=>([],[])) fs0 fs0_ok) (rngs_plain _) Tryz.kp120 Tryz.func120 rfl ?_
 intro σ
 simp -implicitDefEqProofs (maxSteps:=9^9) (disch:=omega) only[go_sem,simprocAttr]
 intro h
 simp at h;subst h;simp
def cloneRng_s:=spec1 tRngs fun l=>if l.length≤4294967296 then some (.list .no 2 (l.map Rng.av)) else none
theorem cloneRng_ok:∀xs v,cloneRng_s xs=some v→PureV S 120 xs v:=
 spec1_ok fun l v h=>by have h:=someIf h;rw[← h.2];exact cloneRng_p l h.1
theorem cloneRd_c(l:List Rd)(tk:Tok)(hl:l.length≤4294967296)(σ:List AObj)(Q:AV→List AObj→Prop)(h:Q (.list (.own σ.length) 6 (l.map Rd.av)) (σ++[.tail l.length 6]))(h0:l=[]→Q (.list .full 0 []) σ) :
  ACalls S 121 [.list tk 6 (l.map Rd.av)] σ Q:=by
 refine AcE (Tryz.envOK (S:=S) 8 (fun _=>([],[])) fs0 fs0_ok) Tryz.kp121 Tryz.func121 rfl ?_
 simp -implicitDefEqProofs (maxSteps:=9^9) (disch:=omega) only[go_sem,simprocAttr]
 refine⟨h,fun e=>?_⟩
 simp at e
 exact h0 e
def fs440(f:FuncId)(xs:List AV):Option AV:=if f=129 then may_s xs else if f=120 then cloneRng_s xs else fs408 f xs
theorem fs440_ok{S:MC Tryz.prog}:∀f xs v,fs440 f xs=some v→PureV S f xs v:=by
 intro f xs v h
 unfold fs440 at h
 split at h
 ·rename_i e;subst e;exact may_ok _ _ h
 split at h
 ·rename_i e;subst e;exact cloneRng_ok _ _ h
 exact fs408_ok _ _ _ h
attribute [go_sem] fs440 may_s cloneRng_s
def noEar:Ear:=⟨0,[],[]⟩
def withL(e:Ear)(r:Rd):Ear×Int:=
 if ck e≠0 then(noEar,ck e) else if ckR r e.tones.length≠0 then(noEar,ckR r e.tones.length) else if e.rds.length=6 then(noEar,6)
 else if mayL ⟨e.slack,e.tones,e.rds++[r]⟩= false then(noEar,9) else(⟨e.slack,e.tones,e.rds++[r]⟩,0)
theorem decL_rd1{t:Tok}{l:List Rd}{k a b s x y:Int}:decL 6 decRd (.list t 6 (l.map Rd.av++[.agg [.int .i64 k,.int .i64 a,.int .i64 b,.int .i64 s,.int .i64 x,.int .i64 y]]))=some (l++[⟨k,a,b,s,⟨x,y⟩⟩]):=by
 have:=decL_self (n:=6) (d:=decRd) (f:=Rd.av) decRd_av (t:=t) (l:=l++[⟨k,a,b,s,⟨x,y⟩⟩])
 rw[List.map_append] at this
 exact this
theorem decL_rd1'{t:Tok}{l:List Rd}{r:Rd}:decL 6 decRd (.list t 6 (l.map Rd.av++[.agg [.int .i64 r.kind,.int .i64 r.a,.int .i64 r.b,.int .i64 r.sec,.int .i64 r.shown.lo,.int .i64 r.shown.hi]]))=some (l++[r]):=decL_rd1
theorem with_m(e:Ear)(r:Rd)(h1:e.tones.length≤4294967296)(h2:e.rds.length≤4294967296):PureV S 79 [e.av,r.av] (.tup [(withL e r).1.av,.int .i64 (withL e r).2]):=by
 refine PvE (Tryz.envOK (S:=S) 44 Tryz.ord79 fs440 fs440_ok) (.tup (by simp;exact⟨Ear.plain _,.int⟩)) Tryz.kp79 Tryz.func79 rfl ?_
 intro σ
 simp only[Ear.av,Rd.av]
 by_cases hc:ck e=0
 ·have he:=okE_of_ck hc
  have hlen:=he.len
  have hrl:=he.rl
  have hc':ck ⟨e.slack,e.tones,e.rds⟩= 0:=hc
  by_cases hr:ckR r e.tones.length=0
  ·have hr':ckR ⟨r.kind,r.a,r.b,r.sec,⟨r.shown.lo,r.shown.hi⟩⟩ e.tones.length=0:=hr
   by_cases h6:e.rds.length=6
   ·have hd:withL e r=(noEar,6):=by unfold withL;rw[if_neg (by simp[hc]),if_neg (by simp[hr]),if_pos h6]
    rw[hd]
    simp -implicitDefEqProofs (maxSteps:=9^9) (disch:=omega) only[go_sem,simprocAttr,hc',hr,noEar,List.map_nil]
   ·have hm6:e.rds.length≤6:=by simp only[ck] at hc;grind
    have hck:ck ⟨e.slack,e.tones,e.rds++[r]⟩= 0:=ck_more hc hr (by omega)
    have hd:withL e r=(if mayL ⟨e.slack,e.tones,e.rds++[r]⟩= false then(noEar,9) else(⟨e.slack,e.tones,e.rds++[r]⟩,0)):=by unfold withL;rw[if_neg (by simp[hc]),if_neg (by simp[hr]),if_neg h6]
    rw[hd]
    cases hm:mayL ⟨e.slack,e.tones,e.rds++[r]⟩
    ·simp -implicitDefEqProofs (maxSteps:=9^9) (disch:=omega) only[go_sem,simprocAttr,hc',hr]
     refine cloneRd_c e.rds .no (by omega) _ _ ?_ ?_
     ·simp -implicitDefEqProofs (maxSteps:=9^9) (disch:=omega) only[go_sem,simprocAttr,hck,hm,decL_rd1']
      simp[noEar]
     ·intro h0
      have hm0:mayL ⟨e.slack,e.tones,[]++[r]⟩= false:=by simpa[h0] using hm
      have hck0:ck ⟨e.slack,e.tones,[]++[r]⟩= 0:=by simpa[h0] using hck
      have hd0:∀t,decL 6 decRd (.list t 6 [.agg [.int .i64 r.kind,.int .i64 r.a,.int .i64 r.b,.int .i64 r.sec,.int .i64 r.shown.lo,.int .i64 r.shown.hi]])=some [r]:=fun t=>decL_rd1' (l:=[])
      simp only[List.nil_append] at hm0 hck0
      simp -implicitDefEqProofs (maxSteps:=9^9) (disch:=omega) only[go_sem,simprocAttr,hck0,hm0,hd0]
      simp[noEar]
    ·simp -implicitDefEqProofs (maxSteps:=9^9) (disch:=omega) only[go_sem,simprocAttr,hc',hr]
     refine cloneRd_c e.rds .no (by omega) _ _ ?_ ?_
     ·simp -implicitDefEqProofs (maxSteps:=9^9) (disch:=omega) only[go_sem,simprocAttr,hck,hm,decL_rd1']
      simp[Rd.av,Rng.av]
     ·intro h0
      have hm0:mayL ⟨e.slack,e.tones,[]++[r]⟩= true:=by simpa[h0] using hm
      have hck0:ck ⟨e.slack,e.tones,[]++[r]⟩= 0:=by simpa[h0] using hck
      have hd0:∀t,decL 6 decRd (.list t 6 [.agg [.int .i64 r.kind,.int .i64 r.a,.int .i64 r.b,.int .i64 r.sec,.int .i64 r.shown.lo,.int .i64 r.shown.hi]])=some [r]:=fun t=>decL_rd1' (l:=[])
      simp only[List.nil_append] at hm0 hck0
      simp -implicitDefEqProofs (maxSteps:=9^9) (disch:=omega) only[go_sem,simprocAttr,hck0,hm0,hd0]
      simp[h0,Rd.av,Rng.av]
  ·have hd:withL e r=(noEar,ckR r e.tones.length):=by unfold withL;rw[if_neg (by simp[hc]),if_pos hr]
   rw[hd]
   generalize hq:ckR r e.tones.length=q at hr
   simp -implicitDefEqProofs (maxSteps:=9^9) (disch:=omega) only[go_sem,simprocAttr,hc',hq,hr,noEar,List.map_nil]
 ·have hc':¬ck ⟨e.slack,e.tones,e.rds⟩= 0:=hc
  have hd:withL e r=(noEar,ck ⟨e.slack,e.tones,e.rds⟩):=by unfold withL;rw[if_pos hc]
  rw[hd]
  generalize hq:ck ⟨e.slack,e.tones,e.rds⟩= q at hc'
  simp -implicitDefEqProofs (maxSteps:=9^9) (disch:=omega) only[go_sem,simprocAttr,hq,hc',noEar,List.map_nil]
end Go.Proofs
namespace Go.Proofs
open Go Go.Mu Go.Ins
theorem spanL_spec{num:List Int→Int}{l:List (List Int)}(hl:l≠[]):(∀t∈l,(spanL num l).lo≤num t∧num t≤(spanL num l).hi)∧(∃t∈l,num t=(spanL num l).lo)∧(∃t∈l,num t=(spanL num l).hi):=by
 have key:∀(l p:List (List Int)) (y:Rng),((∀t∈p,y.lo≤num t∧num t≤y.hi)∧(∃t∈p,num t=y.lo)∧(∃t∈p,num t=y.hi))→
   ((∀t∈p++l,(l.foldl (spanS num) y).lo≤num t∧num t≤(l.foldl (spanS num) y).hi)∧(∃t∈p++l,num t=(l.foldl (spanS num) y).lo)∧(∃t∈p++l,num t=(l.foldl (spanS num) y).hi)):=by
  intro l
  induction l with
  | nil=>intro p y h;simpa using h
  | cons t l ih=>
   intro p y ⟨h1,⟨a,ha,ha2⟩,⟨b,hb,hb2⟩⟩
   have e:p++t::l=(p++[t])++l:=by simp
   rw[e]
   refine ih (p++[t]) (spanS num y t) ⟨fun u hu=>?_,?_,?_⟩
   ·rcases List.mem_append.1 hu with hu | hu
    ·have:=h1 u hu
     simp only[spanS,mn,mx];split<;> split<;> omega
    ·simp at hu;subst hu
     simp only[spanS,mn,mx];split<;> split<;> omega
   ·simp only[spanS,mn]
    split
    ·exact⟨t,by simp,rfl⟩
    ·exact⟨a,by simp[ha],ha2⟩
   ·simp only[spanS,mx]
    split
    ·exact⟨t,by simp,rfl⟩
    ·exact⟨b,by simp[hb],hb2⟩
 obtain⟨t,l,rfl⟩:∃t l',l=t::l':=by cases l with | nil=>exact absurd rfl hl | cons a b=>exact⟨a,b,rfl⟩
 have:=key l [t] (spanS num ⟨num t,num t⟩ t) ⟨fun u hu=>by simp at hu;subst hu;simp[spanS,mn,mx],⟨t,by simp,by simp[spanS,mn]⟩,⟨t,by simp,by simp[spanS,mx]⟩⟩
 simpa[spanL] using this
def padH(T:List Int):List Int:=T++List.replicate (3-T.length) 0
theorem tg_padH(T:List Int)(i:Int):tg (padH T) i=tg T i:=by
 unfold tg padH
 simp only[List.getD,List.getElem?_append,List.getElem?_replicate]
 split
 ·rfl
 ·rename_i h
  rw[List.getElem?_eq_none (by omega)]
  split<;> rfl
theorem isR_padH(r:Rd)(sl:Int)(T:List Int):isR r sl (padH T)=isR r sl T:=by simp only[isR,tg_padH]
def oneB(sl:Int)(rds:List Rd)(v:Int):Bool:=rds.all fun r=>isR r sl [v,0,0]
def oneV(sl lo hi:Int)(rds:List Rd):List Int:=((List.range (hi-lo+1).toNat).filter fun(k:Nat)=>oneB sl rds (lo+k)).map fun(k:Nat)=>lo+(k:Int)
theorem flat_if{α:Type}(P:Nat→Bool)(f:Nat→α):∀l:List Nat,(l.flatMap fun k=>if P k then[f k] else[])=(l.filter P).map f
 | []=>rfl
 | k::l=>by
  rw[List.flatMap_cons,flat_if P f l,List.filter_cons]
  by_cases h:P k=true
  ·rw[if_pos h,if_pos h];rfl
  ·rw[if_neg h,if_neg h];rfl
theorem truths_one(sl lo hi:Int)(rds:List Rd):truthsL ⟨sl,[⟨lo,hi⟩],rds⟩=(oneV sl lo hi rds).map fun v=>[v,0,0]:=by
 rw[truthsL_one]
 unfold oneV
 rw[List.map_map]
 exact flat_if (fun(k:Nat)=>oneB sl rds (lo+k)) (fun(k:Nat)=>[lo+(k:Int),0,0]) _
theorem oneV_mem{sl lo hi:Int}{rds:List Rd}{v:Int}:v∈oneV sl lo hi rds↔(lo≤v∧v≤hi)∧oneB sl rds v=true:=by
 unfold oneV
 simp only[List.mem_map,List.mem_filter,List.mem_range]
 constructor
 ·rintro⟨k,⟨h1,h2⟩,rfl⟩;exact⟨by omega,h2⟩
 ·rintro⟨h1,h2⟩
  have e:lo+((v-lo).toNat:Int)=v:=by omega
  exact⟨(v-lo).toNat,⟨by omega,by rw[e];exact h2⟩,e⟩
theorem oneV_asc(sl lo hi:Int)(rds:List Rd):(oneV sl lo hi rds).Pairwise (· < ·):=by
 unfold oneV
 rw[List.pairwise_map]
 exact(List.pairwise_lt_range.filter _).imp fun h=>by omega
theorem oneV_firsts(sl lo hi:Int)(rds:List Rd):firstsL ((truthsL ⟨sl,[⟨lo,hi⟩],rds⟩).map fun t=>tg t 0)=oneV sl lo hi rds:=by
 rw[truths_one,List.map_map]
 have e:((fun t=>tg t 0)∘fun(v:Int)=>[v,0,0])=id:=by funext v;rfl
 rw[e,List.map_id]
 have:=firsts_self (oneV sl lo hi rds) [] (by rw[List.nil_append];exact(oneV_asc sl lo hi rds).imp fun h=>by omega)
 simpa[firstsL] using this
theorem oneV_nil{sl lo hi:Int}{rds:List Rd}(h:oneV sl lo hi rds≠[]):truthsL ⟨sl,[⟨lo,hi⟩],rds⟩≠[]:=by
 rw[truths_one];simpa using h
theorem chkE_oneV{x:Tn}{h sl lo hi:Int}{rds:List Rd}(h1:0≤x.day∧x.day≤60)(h2: -1≤x.hand∧x.hand≤h-1)(h3:1≤x.due∧x.due≤100000)(he:x.ear=⟨sl,[⟨lo,hi⟩],rds⟩)(hk:ck x.ear=0)(hn:oneV sl lo hi rds≠[]) :
  chkE x h=((oneV sl lo hi rds).map (· - x.due),0):=by
 rw[chkE_one h1 h2 h3 hk (by rw[he];rfl) (by rw[he];exact oneV_nil hn),he,oneV_firsts]
def devR(l:List Int):Rng:=⟨tg l 0,tg l ((l.length:Int)-1)⟩
theorem asc_tg{l:List Int}(h:l.Pairwise (· < ·)){v:Int}(hv:v∈l):tg l 0≤v∧v≤tg l ((l.length:Int)-1):=by
 obtain⟨i,hi,rfl⟩:=List.mem_iff_getElem.1 hv
 have e0:tg l 0=l[0]'(by omega):=by unfold tg;rw[show Int.toNat 0=0 from rfl,List.getD_eq_getElem?_getD,List.getElem?_eq_getElem (by omega)];rfl
 have e1:tg l ((l.length:Int)-1)=l[l.length-1]'(by omega):=by
  unfold tg;rw[show((l.length:Int)-1).toNat=l.length-1 by omega,List.getD_eq_getElem?_getD,List.getElem?_eq_getElem (by omega)];rfl
 rw[e0,e1]
 have hp:=List.pairwise_iff_getElem.1 h
 constructor
 ·by_cases c:i=0
  ·subst c;exact Int.le_refl _
  ·exact Int.le_of_lt (hp 0 i (by omega) hi (by omega))
 ·by_cases c:i=l.length-1
  ·subst c;exact Int.le_refl _
  ·exact Int.le_of_lt (hp i (l.length-1) hi (by omega) (by omega))
theorem tg0_mem{l:List Int}(h:l≠[]):tg l 0∈l:=by
 cases l with
 | nil=>exact absurd rfl h
 | cons a l=>exact List.mem_cons_self
theorem tgl_mem{l:List Int}(h:l≠[]):tg l ((l.length:Int)-1)∈l:=by
 have hl:0<l.length:=List.length_pos_iff.2 h
 unfold tg
 rw[show((l.length:Int)-1).toNat=l.length-1 by omega,List.getD_eq_getElem?_getD,List.getElem?_eq_getElem (by omega)]
 exact List.getElem_mem _
theorem tg_sub{l:List Int}{d i:Int}(h:i.toNat<l.length):tg (l.map (· - d)) i=tg l i-d:=by
 unfold tg
 simp[List.getD_eq_getElem?_getD,List.getElem?_eq_getElem h]
theorem devR_sub{l:List Int}{d:Int}(h:l≠[]):devR (l.map (· - d))=⟨tg l 0-d,tg l ((l.length:Int)-1)-d⟩:=by
 have hl:0<l.length:=List.length_pos_iff.2 h
 unfold devR
 rw[List.length_map,tg_sub (by simpa using hl),tg_sub (by omega)]
theorem span_oneV{sl lo hi:Int}{rds:List Rd}(h:oneV sl lo hi rds≠[]):spanL (fun t=>tg t ((0:Nat):Int)) (truthsL ⟨sl,[⟨lo,hi⟩],rds⟩)=devR (oneV sl lo hi rds):=by
 rw[truths_one]
 have hA:=oneV_asc sl lo hi rds
 generalize oneV sl lo hi rds=V at h hA
 obtain⟨h1,⟨a,ha,ha2⟩,⟨b,hb,hb2⟩⟩:=spanL_spec (num:=fun t=>tg t ((0:Nat):Int)) (l:=V.map fun v=>[v,0,0]) (by simpa using h)
 obtain⟨v,hv,rfl⟩:=List.mem_map.1 ha
 obtain⟨w,hw,rfl⟩:=List.mem_map.1 hb
 have g1:=h1 _ (List.mem_map.2 ⟨_,tg0_mem h,rfl⟩)
 have g2:=h1 _ (List.mem_map.2 ⟨_,tgl_mem h,rfl⟩)
 have k1:=asc_tg hA hv
 have k2:=asc_tg hA hw
 have t0:∀v:Int,tg [v,0,0] ((0:Nat):Int)=v:=fun v=>rfl
 simp only[t0] at ha2 hb2 g1 g2
 generalize spanL _ _=sp at *
 obtain⟨s1,s2⟩:=sp
 simp only at *
 unfold devR
 rw[show s1=tg V 0 by omega,show s2=tg V ((V.length:Int)-1) by omega]
theorem tones_one{sl lo hi:Int}{rds:List Rd}(hk:ck ⟨sl,[⟨lo,hi⟩],rds⟩= 0)(h:oneV sl lo hi rds≠[]):tonesL ⟨sl,[⟨lo,hi⟩],rds⟩=([devR (oneV sl lo hi rds)],0):=by
 have e:knownL ⟨sl,[⟨lo,hi⟩],rds⟩=(truthsL ⟨sl,[⟨lo,hi⟩],rds⟩,0):=by
  unfold knownL;rw[if_neg (by simp[hk]),if_neg (oneV_nil h)]
 unfold tonesL
 rw[e]
 show(([spanL (fun t=>tg t ((0:Nat):Int)) (truthsL ⟨sl,[⟨lo,hi⟩],rds⟩)]:List Rng),(0:Int))=_
 rw[span_oneV h]
theorem oneB_conv{sl:Int}{rds:List Rd}(hr:∀r∈rds,ckR r 1=0){a b y:Int}(ha:oneB sl rds a=true)(hb:oneB sl rds b=true)(h:a≤y∧y≤b):oneB sl rds y=true:=by
 unfold oneB at *
 rw[List.all_eq_true] at *
 intro r hm
 have h0:=hr r hm
 have h1:=ha r hm
 have h2:=hb r hm
 have hkk:r.kind=1∧r.a=0∧r.b=0∧0≤r.sec:=by
  unfold ckR at h0
  repeat' split at h0
  all_goals first | omega | cases h0
 obtain⟨k1,k2,k3,k4⟩:=hkk
 unfold isR at h1 h2⊢
 rw[if_pos k1] at h1 h2⊢
 rw[k2] at h1 h2⊢
 have t0:∀v:Int,tg [v,0,0] 0=v:=fun v=>rfl
 simp only[t0,decide_eq_true_eq] at h1 h2⊢
 have m1:a*r.sec≤y*r.sec:=Int.mul_le_mul_of_nonneg_right h.1 k4
 have m2:y*r.sec≤b*r.sec:=Int.mul_le_mul_of_nonneg_right h.2 k4
 omega
theorem ck_rds{sl lo hi:Int}{rds:List Rd}(hk:ck ⟨sl,[⟨lo,hi⟩],rds⟩= 0):∀r∈rds,ckR r 1=0:=by
 refine firstE_all (f:=fun r=>ckR r (1:Nat)) ?_
 simp only[ck,List.length_cons,List.length_nil] at hk
 grind
theorem oneV_conv{sl lo hi:Int}{rds:List Rd}(hk:ck ⟨sl,[⟨lo,hi⟩],rds⟩= 0){y:Int}(hn:oneV sl lo hi rds≠[])(h:(devR (oneV sl lo hi rds)).lo≤y∧y≤(devR (oneV sl lo hi rds)).hi):y∈oneV sl lo hi rds:=by
 have m1:=oneV_mem.1 (tg0_mem hn)
 have m2:=oneV_mem.1 (tgl_mem hn)
 unfold devR at h
 exact oneV_mem.2 ⟨by simp only at h;omega,oneB_conv (ck_rds hk) m1.2 m2.2 h⟩
theorem oneB_snoc{sl:Int}{rds:List Rd}{rd:Rd}{v:Int}:oneB sl (rds++[rd]) v=(oneB sl rds v&&isR rd sl [v,0,0]):=by simp[oneB]
theorem oneV_snoc{sl lo hi:Int}{rds:List Rd}{rd:Rd}{v:Int}:v∈oneV sl lo hi (rds++[rd])↔v∈oneV sl lo hi rds∧isR rd sl [v,0,0]=true:=by
 simp only[oneV_mem,oneB_snoc,Bool.and_eq_true,and_assoc]
structure OneT(x:Tn)(hands lo hi:Int)(rds:List Rd):Prop where
 day:0≤x.day∧x.day≤60
 hand: -1≤x.hand∧x.hand≤hands-1
 due:500≤x.due∧x.due≤2000
 ear:x.ear=⟨0,[⟨lo,hi⟩],rds⟩
 ck:ck ⟨0,[⟨lo,hi⟩],rds⟩= 0
 one:oneV 0 lo hi rds≠[]
 rl:rds.length≤1
 lo:1≤lo
 hi:hi≤100000
theorem TrueT.one{r:Ros}{rates:List Int}{w:Int}{x:Tn}{b:Int}(h:TrueT r rates w x b)(hw:0≤w∧w≤10)(hs:0≤r.skill∧r.skill≤3):∃lo hi rds,OneT x r.hands lo hi rds:=by
 obtain⟨c1,d,c2,_⟩:=trueT_chk h hw hs
 obtain⟨t,lo,hi,rds,_,g2,g3,g4⟩:=h.ear
 have hb:=h.by_in
 have hd:=h.day
 have hh:=h.hand
 have hdu:=h.due
 have hk:Go.Proofs.ck x.ear=0:=by
  refine Classical.byContradiction fun hc=>?_
  unfold chkE at c1
  rw[if_neg (by omega),if_neg (by omega),if_neg (by omega),if_pos hc] at c1
  exact hc c1
 have hn:truthsL x.ear≠[]:=by
  unfold chkE at c1
  rw[if_neg (by omega),if_neg (by omega),if_neg (by omega),if_neg (by simp[hk]),if_neg (by rw[g4];simp)] at c1
  unfold valuesL at c1
  split at c1
  ·rename_i ha
   exact(askL_ok1 ha).2.2.1
  ·rename_i ha
   exact absurd c1 ha
 rw[g4] at hk hn
 rw[truths_one] at hn
 exact⟨lo,hi,rds,by omega,by omega,hdu,g4,hk,by simpa using hn,by rcases g3 with rfl | rfl<;> simp,by omega,by omega⟩
theorem OneT.chk{x:Tn}{hands lo hi:Int}{rds:List Rd}(h:OneT x hands lo hi rds):chkE x hands=((oneV 0 lo hi rds).map (· - x.due),0):=
 chkE_oneV h.day h.hand (by have:=h.due;omega) h.ear (by rw[h.ear];exact h.ck) h.one
theorem OneT.tones{x:Tn}{hands lo hi:Int}{rds:List Rd}(h:OneT x hands lo hi rds):tonesL x.ear=([devR (oneV 0 lo hi rds)],0):=by rw[h.ear];exact tones_one h.ck h.one
theorem OneT.devs{x:Tn}{hands lo hi:Int}{rds:List Rd}(h:OneT x hands lo hi rds):(1≤(devR (oneV 0 lo hi rds)).lo∧(devR (oneV 0 lo hi rds)).lo≤(devR (oneV 0 lo hi rds)).hi)∧(devR (oneV 0 lo hi rds)).hi≤100000:=by
 have m1:=oneV_mem.1 (tg0_mem h.one)
 have m2:=oneV_mem.1 (tgl_mem h.one)
 have a:=(asc_tg (oneV_asc 0 lo hi rds) (tgl_mem h.one)).1
 have l:=h.lo
 have u:=h.hi
 unfold devR
 simp only
 omega
def earX(x:Tn)(e:Ear):Tn:={x with ear:=e}
def earR(r:Ros)(i:Nat)(e:Ear):Ros:={r with ents:=r.ents.set i (earX (r.ents.getD i default) e)}
theorem OneT.more{x:Tn}{hands lo hi:Int}{rds:List Rd}(h:OneT x hands lo hi rds){t:Int}(ht:t∈oneV 0 lo hi rds){rd:Rd}(hc:ckR rd 1=0)(hr:isR rd 0 [t]=true) :
  withL x.ear rd=(⟨0,[⟨lo,hi⟩],rds++[rd]⟩,0)∧(chkE (earX x ⟨0,[⟨lo,hi⟩],rds++[rd]⟩) hands).2=0∧∀d∈(chkE (earX x ⟨0,[⟨lo,hi⟩],rds++[rd]⟩) hands).1,d∈(chkE x hands).1:=by
 have hrl:=h.rl
 have hm:t∈oneV 0 lo hi (rds++[rd]):=oneV_snoc.2 ⟨ht,by rw[← isR_padH] at hr;exact hr⟩
 have hk:Go.Proofs.ck ⟨0,[⟨lo,hi⟩],rds++[rd]⟩= 0:=ck_more (e:=⟨0,[⟨lo,hi⟩],rds⟩) h.ck hc (by show rds.length≤5;omega)
 have hn:oneV 0 lo hi (rds++[rd])≠[]:=List.ne_nil_of_mem hm
 have hmay:mayL ⟨0,[⟨lo,hi⟩],rds++[rd]⟩= true:=by
  unfold mayL
  have:=oneV_nil hn
  cases hT:truthsL ⟨0,[⟨lo,hi⟩],rds++[rd]⟩ with
  | nil=>exact absurd hT this
  | cons a l=>rfl
 have hck:=chkE_oneV (x:=earX x ⟨0,[⟨lo,hi⟩],rds++[rd]⟩) (h:=hands) h.day h.hand (by have:=h.due;show 1≤x.due∧x.due≤100000;omega) rfl hk hn
 refine⟨?_,by rw[hck],fun d hd=>?_⟩
 ·rw[h.ear]
  unfold withL
  rw[if_neg (by simp[h.ck]),if_neg (fun c=>c hc),if_neg (by show¬rds.length=6;omega),if_neg (by simp[hmay])]
 ·rw[hck] at hd
  rw[h.chk]
  obtain⟨v,hv,rfl⟩:=List.mem_map.1 hd
  exact List.mem_map.2 ⟨v,(oneV_snoc.1 hv).1,rfl⟩
theorem allR_same{r r2:Ros}(h1:r2.mn=r.mn)(h2:r2.mx=r.mx){s:Nat}:∀(m:Nat) (v:List Int) (a:Nat),allR r2 s m v a=allR r s m v a
 | 0,v,a=>rfl
 | m+1,v,a=>by
  simp only[allR,h1,h2]
  have e:(fun(k:Nat)=>if r.mn+(k:Int)=0 then[] else allR r2 s m (setI v a (r.mn+k)) (a+1))=fun(k:Nat)=>if r.mn+(k:Int)=0 then[] else allR r s m (setI v a (r.mn+k)) (a+1):=by
   funext k;rw[allR_same h1 h2 m]
  rw[e,allR_same h1 h2 m]
theorem ear_truth{r:Ros}{i:Nat}{e:Ear}(hi:i<r.ents.length)(hs:∀d∈(chkE (earX (r.ents.getD i default) e) r.hands).1,d∈(chkE (r.ents.getD i default) r.hands).1):∀s u,u∈htruthsR (earR r i e) (entsL (earR r i e)) s→u∈htruthsR r (entsL r) s:=by
 intro s u hu
 unfold htruthsR at hu⊢
 rw[List.mem_filter] at hu⊢
 obtain⟨h1,h2⟩:=hu
 refine⟨by rw[← allR_same (r:=r) (r2:=earR r i e) rfl rfl];exact h1,?_⟩
 rw[isB_ent,List.all_eq_true] at h2
 rw[isB_ent,List.all_eq_true]
 intro k hk
 have hk':=List.mem_range.1 hk
 have g:=h2 k (by show k∈List.range (r.ents.set i _).length;rw[List.length_set];exact hk)
 have hd:(entsL (earR r i e)).getD k []=(chkE ((earR r i e).ents.getD k default) r.hands).1:=by
  show(((r.ents.set i (earX (r.ents.getD i default) e)).map fun x=>(chkE x r.hands).1)).getD k []=(chkE ((r.ents.set i (earX (r.ents.getD i default) e)).getD k default) r.hands).1
  simp only[List.getD_eq_getElem?_getD,List.getElem?_map]
  rw[List.getElem?_eq_getElem (by rw[List.length_set];exact hk')]
  rfl
 have hd0:(entsL r).getD k []=(chkE (r.ents.getD k default) r.hands).1:=by
  show((r.ents.map fun x=>(chkE x r.hands).1)).getD k []=_
  simp only[List.getD_eq_getElem?_getD,List.getElem?_map]
  rw[List.getElem?_eq_getElem hk']
  rfl
 rw[hd] at g
 rw[hd0]
 by_cases c:i=k
 ·subst c
  have e':(earR r i e).ents.getD i default=earX (r.ents.getD i default) e:=by
   show(r.ents.set i _).getD i default=_
   rw[List.getD_eq_getElem?_getD,List.getElem?_set_self hi];rfl
  rw[e'] at g
  unfold entB at g⊢
  rw[List.any_eq_true] at g⊢
  obtain⟨h,hh,gg⟩:=g
  refine⟨h,hh,?_⟩
  have eh:(earX (r.ents.getD i default) e).hand=(r.ents.getD i default).hand:=rfl
  have ed:(earX (r.ents.getD i default) e).day=(r.ents.getD i default).day:=rfl
  rw[eh,ed] at gg
  split at gg
  ·cases gg
  ·rename_i hc
   rw[if_neg hc]
   rw[List.any_eq_true] at gg⊢
   obtain⟨d,hd,g3⟩:=gg
   exact⟨d,hs d hd,g3⟩
 ·have e':(earR r i e).ents.getD k default=r.ents.getD k default:=by
   show(r.ents.set i _).getD k default=_
   rw[List.getD_eq_getElem?_getD,List.getElem?_set_ne c,← List.getD_eq_getElem?_getD]
  rw[e'] at g
  exact g
theorem earR_head{r:Ros}{i:Nat}{e:Ear}:headE (earR r i e)=headE r:=by
 unfold headE earR
 simp only[List.length_set]
theorem earR_entE{r:Ros}{i:Nat}{e:Ear}(hi:i<r.ents.length)(h:entsE r=0)(hx:(chkE (earX (r.ents.getD i default) e) r.hands).2=0):entsE (earR r i e)=0:=by
 unfold entsE
 refine firstNZ_zero fun y hy=>?_
 obtain⟨x,hm,rfl⟩:=List.mem_map.1 hy
 rcases List.mem_or_eq_of_mem_set hm with hm | rfl
 ·exact firstNZ_all h _ (List.mem_map.2 ⟨x,hm,rfl⟩)
 ·exact hx
structure MoreR(r r2:Ros):Prop where
 fit:r2.Fit
 none:knownE r2 []≠0→knownE r2 []=11∧fewL r2=[]
 some:knownE r2 []=0→∀{f0:List Int} {F:List (List Int)},fewL r=f0::F→∃g0 G,fewL r2=g0::G∧f0.length≤g0.length∧g0.length≤4∧G.length≤5∧(∀x∈g0::G,x.length≤4)∧(g0.length=f0.length→∀x∈g0::G,x∈f0::F)
theorem MoreR.of{r:Ros}(hf:r.Fit)(hg:r.Good)(hhd:headE r=0)(hen:entsE r=0)(hk:knownE r []=0){i:Nat}(hi:i<r.ents.length){lo hi':Int}{rds:List Rd}(h:OneT (r.ents.getD i default) r.hands lo hi' rds){t:Int}(ht:t∈oneV 0 lo hi' rds){rd:Rd}(hc:ckR rd 1=0)(hr:isR rd 0 [t]=true) :
  MoreR r (earR r i ⟨0,[⟨lo,hi'⟩],rds++[rd]⟩):=by
 obtain⟨h1,h2,h3⟩:=h.more ht hc hr
 have hrl:=h.rl
 have hh2:headE (earR r i ⟨0,[⟨lo,hi'⟩],rds++[rd]⟩)=0:=by rw[earR_head];exact hhd
 have he2:=earR_entE (e:=⟨0,[⟨lo,hi'⟩],rds++[rd]⟩) hi hen h2
 have hg2:=Ros.good_of hh2 he2
 have hro:rosE r=0:=by unfold rosE;rw[if_neg (fun c=>c hhd)];exact hen
 have hro2:rosE (earR r i ⟨0,[⟨lo,hi'⟩],rds++[rd]⟩)=0:=by unfold rosE;rw[if_neg (fun c=>c hh2)];exact he2
 refine⟨⟨hf.sets,?_,fun x hx=>?_⟩,fun hn=>?_,fun hk2 f0 F hF=>?_⟩
 ·show(r.ents.set i _).length≤1000000
  rw[List.length_set];exact hf.ents
 ·rcases List.mem_or_eq_of_mem_set hx with hm | rfl
  ·exact hf.ear x hm
  ·refine⟨by show 1≤1000000;omega,?_⟩
   show(rds++[rd]).length≤1000000
   simp;omega
 ·refine⟨?_,by unfold fewL;rw[if_neg hn]⟩
  unfold knownE at hn⊢
  rw[if_neg (fun c=>c hro2),if_neg (by simp[firstNZ])] at hn⊢
  split at hn
  ·rename_i hq;rw[if_pos hq]
  ·exact absurd rfl hn
 ·exact few_cons hg hro hk hg2 hro2 hk2 rfl (ear_truth hi h3) hF
theorem Ros.Good.one{r:Ros}(h:r.Good){x:Tn}(hx:x∈r.ents):∃sl lo hi rds,x.ear=⟨sl,[⟨lo,hi⟩],rds⟩∧ck ⟨sl,[⟨lo,hi⟩],rds⟩= 0∧oneV sl lo hi rds≠[]∧chkE x r.hands=((oneV sl lo hi rds).map (· - x.due),0):=by
 obtain⟨h1,h2,h3,h4,h5,h6⟩:=h.ent x hx
 obtain⟨_,hw,hn,_⟩:=askL_ok1 h6
 have hl:x.ear.tones.length=1:=by
  unfold oneE at hw
  split at hw
  ·omega
  ·cases hw
 obtain⟨sl,ts,rds⟩:∃sl ts rds,x.ear=⟨sl,ts,rds⟩:=⟨_,_,_,rfl⟩
 obtain⟨rds,he⟩:=rds
 rw[he] at hl hn h4
 match ts,hl with
 | [⟨lo,hi⟩],_=>
  have hn2:oneV sl lo hi rds≠[]:=by rw[truths_one] at hn;simpa using hn
  exact⟨sl,lo,hi,rds,he,h4,hn2,chkE_oneV h1 (by omega) h3 he (by rw[he];exact h4) hn2⟩
theorem Ros.Good.ne{r:Ros}(h:r.Good):∀l∈entsL r,l≠[]:=by
 intro l hl
 obtain⟨x,hx,rfl⟩:=List.mem_map.1 hl
 obtain⟨sl,lo,hi,rds,_,_,h3,h4⟩:=h.one hx
 rw[h4];simpa using h3
def devsL(r:Ros):List Rng:=if rosE r=0 then(entsL r).map devR else[]
theorem idx_tg{l:List Int}{i:Int}(h:0≤i∧i<l.length):idx (l.map (AV.int .i64)) i=some (.int .i64 (tg l i)):=by
 obtain⟨n,rfl⟩:=Int.eq_ofNat_of_zero_le h.1
 have hn:n<l.length:=by omega
 rw[idx_nat hn]
 simp[tg,List.getD_eq_getElem?_getD,List.getElem?_eq_getElem hn]
theorem deviations_p(r:Ros)(hf:r.Fit):PureV SBes 40 [r.av] (.tup [.list .no 2 ((devsL r).map Rng.av),.int .i64 (rosE r)]):=by
 refine PvE (Tryz.envOK (S:=SBes) 39 Tryz.ord40 fs0 fs0_ok) (.tup (by simp only[List.mem_cons,List.not_mem_nil,or_false,forall_eq_or_imp,forall_eq];exact⟨.map fun x _=>Rng.plain x,.int⟩)) Tryz.kp40 Tryz.func40 rfl ?_
 intro σ
 simp only[Ros.av]
 by_cases hh:headE r=0
 ·by_cases he:entsE r=0
  ·have hro:rosE r=0:=by unfold rosE;rw[if_neg (fun c=>c hh)];exact he
   have hg:=Ros.good_of hh he
   have hne:=hg.ne
   have hin:=hg.devs
   have hel:(entsL r).length≤1000000:=by rw[entsL_len];exact hf.ents
   rw[show devsL r=(entsL r).map devR from if_pos hro,hro]
   simp -implicitDefEqProofs (maxSteps:=9^9) (disch:=omega) only[go_sem,simprocAttr]
   refine rosterOf_ok r hh (by have:=hf.sets;omega) (hf.ok hh) _ _ ?_
   rw[he]
   generalize entsL r=L at hne hin hel⊢
   simp -implicitDefEqProofs (maxSteps:=9^9) (disch:=omega) only[go_sem,simprocAttr,Ros.wav]
   refine ARun.ghost 6 2 (sz0:=0) rfl (by simp[lookA]) ?_
   simp only[ins,↓reduceIte,List.append_assoc,List.cons_append,List.nil_append,List.length_append,List.length_cons,List.length_nil,Nat.zero_add,Nat.reduceEqDiff]
   refine ARun.forS (Tryz.envOK (S:=SBes) 39 Tryz.ord40 fs0 fs0_ok) L.length (fun _=>True) (fun i=>[(6,.list (.own (σ.length+2)) 2 (((L.take i).map devR).map Rng.av)),(20,.int .i64 i)]) (fun i j=>σ++(.cells [.int .i64 r.hands,.int .i64 r.skill,.int .i64 r.mn,.int .i64 r.mx,.list .no 2 (r.sets.map Sg.av),.list .no 6 (r.ents.map Tn.av)]:: .cells [.int .i64 r.hands,.int .i64 r.skill,.int .i64 r.mn,.int .i64 r.mx,.list .no 2 (r.sets.map Sg.av),.list .no 6 (r.ents.map Tn.av),.list .no 1 (L.map ints1)]:: .tail i 2::j)) [] (by kernel_rfl) (by simp) (by simp[upd,ins,subF,lookA]) trivial ?_ ?_
   ·intro i j hi _ ih
    have hidx:idx (L.map ints1) (i:Int)=some (.list .no 1 (L[i].map (.int .i64))):=idx_nat (f:=ints1) hi
    have hml:=List.getElem_mem hi
    have hl0:0<L[i].length:=List.length_pos_iff.2 (hne _ hml)
    have hl1:=(hin _ hml).2
    have hi0:idx (L[i].map (AV.int .i64)) 0=some (.int .i64 (tg L[i] 0)):=idx_tg ⟨by omega,by omega⟩
    have hi1:idx (L[i].map (AV.int .i64)) ((L[i].length:Int)-1)=some (.int .i64 (tg L[i] ((L[i].length:Int)-1))):=idx_tg ⟨by omega,by omega⟩
    have hdr:(devR L[i]).av= .agg [.int .i64 (tg L[i] 0),.int .i64 (tg L[i] ((L[i].length:Int)-1))]:=rfl
    have hst:(L.take (i+1)).map devR=(L.take i).map devR++[devR L[i]]:=by rw[List.take_succ_eq_append_getElem hi,List.map_append];rfl
    rw[hst] at ih
    have hwl:IntKind.i64.wrap ((L[i].length:Int)-1)=(L[i].length:Int)-1:=wrap64 (by omega) (by omega)
    have hbl:((L.take i).map devR).length=i:=by rw[List.length_map,List.length_take];omega
    have hwi:IntKind.i64.wrap ((i:Int)+1)=((i+1:Nat):Int):=by rw[wrap64 (by omega) (by omega)];rfl
    have hcl:∀x:Rng,x.av.cells.length=2:=fun _=>rfl
    have hfl:∀x:Rng,x.av.flat=true:=fun _=>rfl
    generalize L[i]=l at *
    generalize (L.take i).map devR=B at *
    simp -implicitDefEqProofs (maxSteps:=9^9) (disch:=omega) only[go_sem,simprocAttr,hidx,hi0,hi1,hwl,hwi,hbl,hcl,hfl]
    exact(ih trivial j).castS (by simp[hdr]) (by simp[upd,ins,subF,lookA,hdr])
   ·intro j _
    rw[List.take_length]
    simp -implicitDefEqProofs (maxSteps:=9^9) (disch:=omega) only[go_sem,simprocAttr]
  ·have hr:rosE r=entsE r:=by unfold rosE;rw[if_neg (fun c=>c hh)]
   have hd:devsL r=[]:=by unfold devsL;rw[if_neg (by rw[hr];exact he)]
   rw[hd,hr]
   simp -implicitDefEqProofs (maxSteps:=9^9) (disch:=omega) only[go_sem,simprocAttr]
   refine rosterOf_ok r hh (by have:=hf.sets;omega) (hf.ok hh) _ _ ?_
   generalize entsE r=q at he
   simp -implicitDefEqProofs (maxSteps:=9^9) (disch:=omega) only[go_sem,simprocAttr,Ros.wav,he]
 ·have hr:rosE r=headE r:=by unfold rosE;rw[if_pos hh]
  have hd:devsL r=[]:=by unfold devsL;rw[if_neg (by rw[hr];exact hh)]
  rw[hd,hr]
  simp -implicitDefEqProofs (maxSteps:=9^9) (disch:=omega) only[go_sem,simprocAttr]
  refine rosterOf_err r hh (by have:=hf.sets;omega) (by have:=hf.ents;omega) _ _ ?_
  generalize headE r=q at hh
  simp -implicitDefEqProofs (maxSteps:=9^9) (disch:=omega) only[go_sem,simprocAttr,Ros.wav,hh]
end Go.Proofs
