/- Texts of a proof: lemmas. -/
import Derived.Test.YtgbdndlmdklefaaGreatGK18
set_option linter.unusedSimpArgs false
set_option linter.unusedVariables false
set_option maxRecDepth 100000
set_option maxHeartbeats 40000000
namespace Go.Proofs
open Go Go.Mu
variable {S:MC Tryz.prog}
theorem Ear_eta(e:Ear):(⟨e.slack,e.tones,e.rds⟩: Ear)=e:=rfl
theorem ii_plain{a b:Int}:Plain (.tup [.int .i64 a,.int .i64 b]):= .tup (by simp;exact⟨.int,.int⟩)
theorem gateW_ok{m x w:Int}(h:gateW m x w=0):(0≤x∧x≤m-1)∧0≤w:=by unfold gateW at h;grind
theorem gate_p(e:Ear)(x width:Int)(h1:e.tones.length≤4294967296)(h2:e.rds.length≤4294967296):PureV S 133 [e.av,.int .i64 x,.int .i64 width] (.tup [.int .i64 (gateL e x width).1,.int .i64 (gateL e x width).2]):=by
 refine PvE (Tryz.envOK (S:=S) 63 (fun _=>([],[])) fs9 fs9_ok) (ii_plain) Tryz.kp133 Tryz.func133 rfl ?_
 intro σ
 simp only[Ear.av]
 by_cases hk:(askL e (gateW e.tones.length x width)).2=0
 ·obtain⟨hc,hw,hn,hke⟩:=askL_ok hk
  rw[hw] at hke
  have he:=okE_of_ck hc
  obtain⟨hx,hwd⟩:=gateW_ok hw
  have hlen:=he.len
  have htl:=truthsL_len he
  have hx2:0≤x∧x≤2:=by omega
  have hke':askL ⟨e.slack,e.tones,e.rds⟩ 0=(truthsL e,0):=hke
  simp -implicitDefEqProofs (maxSteps:=9^9) (disch:=omega) only[go_sem,simprocAttr,hke',tavs]
  refine ARun.forS (Tryz.envOK (S:=S) 63 (fun _=>([],[])) fs9 fs9_ok) 20 (fun i=>∀k,k<i→gateS e.slack (truthsL e) x width (k+1)=false) (fun i=>[(11,.int .i64 ((i:Int)+1))]) (fun _ j=>σ++(.cells e.cells:: .cells [.int .i64 x]::j)) [] (by kernel_rfl) (by simp[Ear.cells]) (by simp[upd,ins,subF,lookA]) (by simp) ?_ ?_
  ·intro i j hi hP ih
   have hr:okR ⟨1,x,0,(i:Int)+1,⟨0,0⟩⟩:=⟨by simp only;omega,hx2,by simp only;omega,by simp only;omega,by simp only;omega,by simp only;omega⟩
   simp -implicitDefEqProofs (maxSteps:=9^9) (disch:=omega) only[go_sem,simprocAttr,Ear.cells,giveB_rdv]
   refine outcomes_c ⟨1,x,0,(i:Int)+1,⟨0,0⟩⟩ e.slack (truthsL e) hr he.sl (by omega) (truthsL_ok he) _ _ fun τ m hO hm=>?_
   have hmap:=hO.map
   have hlenS:=hO.len
   have hold:=hO.old
   have hs0:=hold σ.length (by simp)
   have hs1:=hold (σ.length+1) (by simp)
   rw[hget_at0] at hs0
   rw[hget_at] at hs1
   simp only[List.getElem?_cons_zero,List.getElem?_cons_succ] at hs0 hs1
   simp only[List.length_append,List.length_cons] at hmap hlenS hold
   generalize hrm:σ.length+(j.length+1+1)=rm at hmap hlenS hold
   have hml:(mapT m).length=m.length:=by simp[mapT]
   simp -implicitDefEqProofs (maxSteps:=9^9) (disch:=omega) only[go_sem,simprocAttr,hmap,hrm,hml]
   let Ok (i2:Nat):Prop:=∀p,m[i2]? = some p→(spanL (fun t=>tg t x) p.2.2).hi- (spanL (fun t=>tg t x) p.2.2).lo≤width
   refine ARun.loopJ (Tryz.envOK (S:=S) 63 (fun _=>([],[])) fs9 fs9_ok) (α:=List Nat) (fun seen=>m.length-seen.length) (fun seen τ'=>τ.length<τ'.length∧(∀q,q<σ.length→hget τ' q=hget σ q)∧hget τ' σ.length=some (.cells e.cells)∧hget τ' (σ.length+1)=some (.cells [.int .i64 x])∧hget τ' rm=some (.map (mapT m))∧hget τ' τ.length=some (.iter (some rm) m.length seen)∧seen.Nodup∧(∀i2∈seen,i2<m.length∧Ok i2)) (fun _=>[]) [] (by kernel_rfl) (by simp[upd,ins,subF,lookA]) ?_ ?_
   ·refine⟨by simp,fun q hq=>?_,?_,?_,?_,hget_at0,by simp,by simp⟩
    ·rw[hget_app (by omega),hold q (by omega),hget_app hq]
    ·rw[hget_app (by omega)];exact hs0
    ·rw[hget_app (by omega)];exact hs1
    ·rw[hget_app (by omega)];exact hmap
   ·rintro seen τ' ⟨j1,j2,j3,j4,j5,j6,j7,j8⟩ ih2
    simp -implicitDefEqProofs (maxSteps:=9^9) (disch:=omega) only[go_sem,simprocAttr]
    refine nextA_intro j6 j5 hml.symm (fun i2 k v hi2 hns=>?_) (fun hall=>?_)
    ·obtain⟨p,hp,hkv⟩:∃p,m[i2]? = some p∧(AV.int .i64 p.1,AV.list (.own p.2.1) 3 (p.2.2.map tav))=(k,v):=by simpa[mapT] using hi2
     simp only[Prod.mk.injEq] at hkv
     obtain⟨rfl,rfl⟩:=hkv
     have hpm:p∈m:=List.mem_of_getElem? hp
     obtain⟨hi2l,_⟩:=List.getElem?_eq_some_iff.1 hp
     have hpo:(p.1,p.2.2)∈outcomesL ⟨1,x,0,(i:Int)+1,⟨0,0⟩⟩ e.slack (truthsL e):=by rw[← hm];exact List.mem_map.2 ⟨p,hpm,rfl⟩
     obtain⟨hne,hsub⟩:=outcomes_sub _ hpo
     simp only at hne hsub
     have htlp:=(hO.tl p hpm).2.2
     have hsm:∀t∈p.2.2,t.length=3∧small t:=fun t ht=>truthsL_ok he t (hsub t ht)
     obtain⟨b1,b2,b3,b4⟩:=spanL_bound (fun t ht=>(hsm t ht).2) hne x
     have hrτ:rm<τ.length:=hget_lt hmap
     have k1:hget (hset τ' τ.length (.iter (some rm) m.length (seen++[i2]))) τ.length=some (.iter (some rm) m.length (seen++[i2])):=hget_set j6 _
     have k2:∀q,q≠τ.length→hget (hset τ' τ.length (.iter (some rm) m.length (seen++[i2]))) q=hget τ' q:=fun q hq=>hget_ne (fun e=>hq e.symm)
     have k3:(hset τ' τ.length (.iter (some rm) m.length (seen++[i2]))).length=τ'.length:=length_hset
     generalize hset τ' τ.length (.iter (some rm) m.length (seen++[i2]))=τ1 at k1 k2 k3⊢
     have k5:hget τ1 rm=some (.map (mapT m)):=by rw[k2 _ (by omega)];exact j5
     have k6:hget τ1 (σ.length+1)=some (.cells [.int .i64 x]):=by rw[k2 _ (by omega)];exact j4
     have hgl:(seen++[i2]).getLast? = some i2:=by simp
     simp -implicitDefEqProofs (maxSteps:=9^9) (disch:=omega) only[go_sem,simprocAttr,k1,k5,hgl,hi2,hml]
     refine ACalls.weaken (l':=[tavs p.2.2,.fn (.func 171) [] [.ptr (σ.length+1) 0]]) ⟨⟨rfl,.inl rfl,.inl rfl⟩,rfl,trivial⟩ (span_c (fun t=>tg t x) p.2.2 hne (by omega) (fun t ht=>(hsm t ht).1) (fun t ht=>gate1_v k6 hx2 (hsm t ht).1) _ ?_)
     by_cases hcmp:width<(spanL (fun t=>tg t x) p.2.2).hi- (spanL (fun t=>tg t x) p.2.2).lo
     ·simp -implicitDefEqProofs (maxSteps:=9^9) (disch:=omega) only[go_sem,simprocAttr,Rng.av]
      have hg:gateS e.slack (truthsL e) x width ((i:Int)+1)=false:=by
       unfold gateS
       rw[List.all_eq_false]
       exact⟨_,hpo,by simp only[decide_eq_true_eq];omega⟩
      obtain⟨j',hj'⟩:=app_of_same (σ:=σ++[.cells e.cells,.cells [.int .i64 x]]) (τ:=τ1++[.cells [.int .i64 (spanL (fun t=>tg t x) p.2.2).lo,.int .i64 (spanL (fun t=>tg t x) p.2.2).hi]]) (by simp;omega) (fun q hq=>by
       simp only[List.length_append,List.length_cons,List.length_nil] at hq
       rw[hget_app (by omega),k2 _ (by omega)]
       rcases(by omega:q<σ.length∨q=σ.length∨q=σ.length+1) with hq' | rfl | rfl
       ·rw[j2 q hq',hget_app hq']
       ·rw[j3,hget_at0];rfl
       ·rw[j4,hget_at];rfl)
      rw[hj',List.append_assoc]
      refine(ih (fun k hk2=>?_) j').castS rfl (by simp[upd,ins,subF,lookA])
      rcases(by omega:k<i∨k=i) with hk3 | rfl
      ·exact hP k hk3
      ·exact hg
     ·simp -implicitDefEqProofs (maxSteps:=9^9) (disch:=omega) only[go_sem,simprocAttr,Rng.av]
      have hnd:(seen++[i2]).Nodup:=by
       rw[List.nodup_append]
       exact⟨j7,by simp,fun a ha b hb e=>by simp at hb;subst hb;exact hns (e▸ha)⟩
      have hall2:∀i3∈seen++[i2],i3<m.length∧Ok i3:=fun i3 h3=>by
       rcases List.mem_append.1 h3 with h3 | h3
       ·exact j8 i3 h3
       ·simp at h3;subst h3
        refine⟨hi2l,fun p' hp'=>?_⟩
        rw[hp] at hp';simp at hp';subst hp';omega
      have hcard:=nodup_lt hnd (fun i3 h3=>(hall2 i3 h3).1)
      simp only[List.length_append,List.length_cons,List.length_nil] at hcard
      refine(ih2 (seen++[i2]) _ (by simp only[List.length_append,List.length_cons,List.length_nil];omega) ⟨by simp;omega,fun q hq=>by rw[hget_app (by omega),k2 _ (by omega)];exact j2 q hq,by rw[hget_app (by omega),k2 _ (by omega)];exact j3,by rw[hget_app (by omega)];exact k6,by rw[hget_app (by omega)];exact k5,by rw[hget_app (by omega)];exact k1,hnd,hall2⟩).castS rfl (by simp[upd,ins,subF,lookA])
    ·have hg:gateS e.slack (truthsL e) x width ((i:Int)+1)=true:=by
      unfold gateS
      rw[List.all_eq_true]
      intro p' hp'
      rw[← hm] at hp'
      obtain⟨p,hp,rfl⟩:=List.mem_map.1 hp'
      obtain⟨i2,hi2,rfl⟩:=List.mem_iff_getElem.1 hp
      have:=(j8 i2 (hall i2 (by rw[hml];exact hi2))).2 _ (List.getElem?_eq_getElem hi2)
      simpa using this
     have hf:=find_range (f:=fun k:Nat=>gateS e.slack (truthsL e) x width (k+1)) hi hP hg
     simp -implicitDefEqProofs (maxSteps:=9^9) (disch:=omega) only[go_sem,simprocAttr]
     refine gives_same (by omega) (fun q hq=>j2 q hq) ?_
     simp[gateL,hk,hf,wk,wkL,wk1,wk0]
  ·intro j hP
   have hf:=find_none (f:=fun k:Nat=>gateS e.slack (truthsL e) x width (k+1)) (n:=20) hP
   simp -implicitDefEqProofs (maxSteps:=9^9) (disch:=omega) only[go_sem,simprocAttr]
   simp[gateL,hk,hf]
 ·have hk':¬(askL ⟨e.slack,e.tones,e.rds⟩ (gateW e.tones.length x width)).2=0:=hk
  by_cases hx:0≤x∧x≤(e.tones.length:Int)-1
  ·by_cases hw:width<0
   ·have hv:gateW e.tones.length x width=1:=by simp[gateW,hx,hw]
    rw[hv] at hk'
    simp -implicitDefEqProofs (maxSteps:=9^9) (disch:=omega) only[go_sem,simprocAttr,hk',tavs]
    rw[hv] at hk
    simp[gateL,hk,hv,Ear_eta]
   ·have hv:gateW e.tones.length x width=0:=by simp[gateW,hx,hw]
    rw[hv] at hk'
    simp -implicitDefEqProofs (maxSteps:=9^9) (disch:=omega) only[go_sem,simprocAttr,hk',tavs]
    rw[hv] at hk
    simp[gateL,hk,hv,Ear_eta]
  ·have hv:gateW e.tones.length x width=3:=by unfold gateW;rw[if_neg hx]
   rw[hv] at hk'
   simp -implicitDefEqProofs (maxSteps:=9^9) (disch:=omega) only[go_sem,simprocAttr,hk',tavs,hx]
   rw[hv] at hk
   simp[gateL,hk,hv,Ear_eta]
theorem sJb_plain(j:Jb):Plain j.av:= .agg (by
 intro c hc
 simp only[Jb.cells,List.mem_cons,List.not_mem_nil,or_false] at hc
 rcases hc with h | h | h | h | h | h | h | h | h | h | h | h | h | h | h | h | h | h<;> subst h
 all_goals first | exact .int | exact .map fun x _=>Rng.plain x)
/-! An example of chapter 1, and Passes (for TopSteady). -/
def stong(x:Rng):Jb:=⟨x,⟨30,32⟩,⟨40,41⟩,⟨3,4⟩,⟨2,3⟩,⟨1,2⟩,⟨1,1⟩,20,[⟨-2,1⟩,⟨0,3⟩],5,1⟩
def stong_s:=spec1 tRng fun x=>some (stong x).av
theorem stong_ok:∀xs v,stong_s xs=some v→PureV S 131 xs v:=by
 refine spec1_ok fun x v h=>?_
 simp only[Option.some.injEq] at h;subst h
 refine PvE (Tryz.envOK (S:=S) 16 (fun _=>([],[])) fs0 fs0_ok) (sJb_plain _) Tryz.kp131 Tryz.func131 rfl ?_
 intro σ
 simp only[tRng,Rng.av]
 simp -implicitDefEqProofs (maxSteps:=9^9) (disch:=omega) only[go_sem,simprocAttr]
 exact⟨rfl,rfl,rfl,rfl,rfl,rfl,rfl,rfl,rfl,rfl,rfl,rfl,rfl,rfl,rfl,⟨rfl,.inl rfl,.inl rfl⟩,rfl,rfl,trivial⟩
theorem spasses_p(j:Jb)(h:OkJ j):PureV S 83 [j.av] (.tup [.int .i64 (passS j j.pitch),.int .i64 0]):=by
 refine PvE (Tryz.envOK (S:=S) 15 (fun _=>([],[])) fs207 fs207_ok) (.tup (by simp;exact⟨.int,.int⟩)) Tryz.kp83 Tryz.func83 rfl ?_
 intro σ
 have hc:=passes_p (S:=S) j j.pitch h
 simp only[Jb.av,Jb.cells,Rng.av] at hc⊢
 simp -implicitDefEqProofs (maxSteps:=9^9) (disch:=omega) only[go_sem,simprocAttr,h]
def spasses_s:=spec1 tJb fun j=>if OkJ j then some (.tup [.int .i64 (passS j j.pitch),.int .i64 0]) else none
theorem spasses_ok:∀xs v,spasses_s xs=some v→PureV S 83 xs v:=
 spec1_ok fun j v h=>by have h:=someIf h;rw[← h.2];exact spasses_p j h.1
def fs450(f:FuncId)(xs:List AV):Option AV:=if f=131 then stong_s xs else if f=83 then spasses_s xs else fs207 f xs
theorem fs450_ok{S:MC Tryz.prog}:∀f xs v,fs450 f xs=some v→PureV S f xs v:=by
 intro f xs v h
 unfold fs450 at h
 split at h
 ·rename_i e;subst e;exact stong_ok _ _ h
 split at h
 ·rename_i e;subst e;exact spasses_ok _ _ h
 exact fs207_ok _ _ _ h
attribute [go_sem] fs450 stong_s spasses_s
theorem filAwake_c(σ:List AObj)(Q:AV→List AObj→Prop)(h:∀σ',Q (.bool true) σ'):ACalls S 81 [] σ Q:=by
 have o1:OkJ (stong ⟨-12, -8⟩):=by decide
 have o2:OkJ (stong ⟨4,6⟩):=by decide
 have o3:OkJ ⟨⟨-3,2⟩,⟨30,32⟩,⟨40,41⟩,⟨3,4⟩,⟨2,3⟩,⟨1,2⟩,⟨1,1⟩,20,[⟨-2,1⟩,⟨0,3⟩],5,1⟩:=by decide
 have g1:guidedS (stong ⟨-12, -8⟩)=some 3:=by kernel_rfl
 have g2:nextS (stong ⟨4,6⟩)=some 2:=by kernel_rfl
 have g3:nextV (stong ⟨4,6⟩) (some 2)=(2,2,0):=by kernel_rfl
 have g4:passS ⟨⟨-3,2⟩,⟨30,32⟩,⟨40,41⟩,⟨3,4⟩,⟨2,3⟩,⟨1,2⟩,⟨1,1⟩,20,[⟨-2,1⟩,⟨0,3⟩],5,1⟩ ⟨-3,2⟩= 1:=by kernel_rfl
 have g5:gateL ⟨0,[⟨44000,44010⟩],[]⟩ 0 9=(10,0):=by kernel_rfl
 have t:∀x,(stong x).av= .agg [.int .i64 x.lo,.int .i64 x.hi,.int .i64 30,.int .i64 32,.int .i64 40,.int .i64 41,.int .i64 3,.int .i64 4,.int .i64 2,.int .i64 3,.int .i64 1,.int .i64 2,.int .i64 1,.int .i64 1,.int .i64 20,.list .no 2 [.agg [.int .i64 (-2),.int .i64 1],.agg [.int .i64 0,.int .i64 3]],.int .i64 5,.int .i64 1]:=fun _=>rfl
 have c1:=fun σ Q=>guided_c (S:=S) o1 σ Q
 have c2:=fun σ Q=>jrnext_c (S:=S) o2 σ Q
 have c5:=gate_p (S:=S) ⟨0,[⟨44000,44010⟩],[]⟩ 0 9 (by decide) (by decide)
 rw[g5] at c5
 rw[g1,t] at c1
 rw[g2,g3,t] at c2
 simp only[optV] at c1 c2
 refine AcE (Tryz.envOK (S:=S) 70 (fun _=>([],[])) fs450 fs450_ok) Tryz.kp81 Tryz.func81 rfl ?_
 simp -implicitDefEqProofs (maxSteps:=9^9) (disch:=omega) only[go_sem,simprocAttr,t]
 refine c1 _ _ fun J1=>?_
 simp -implicitDefEqProofs (maxSteps:=9^9) (disch:=omega) only[go_sem,simprocAttr,t]
 refine c2 _ _ fun J2=>?_
 simp -implicitDefEqProofs (maxSteps:=9^9) (disch:=omega) only[go_sem,simprocAttr,t,o3,g4]
 refine ACalls.weaken (l':=[(⟨0,[⟨44000,44010⟩],[]⟩: Ear).av,.int .i64 0,.int .i64 9]) ⟨⟨rfl,⟨rfl,.inl rfl,.inl rfl⟩,⟨rfl,.inr rfl,.inl rfl⟩,trivial⟩,rfl,rfl,trivial⟩ (c5 _ _ ?_)
 simp -implicitDefEqProofs (maxSteps:=9^9) (disch:=omega) only[go_sem,simprocAttr,t,o3,g4]
 exact h _
end Go.Proofs
