/- Texts of a proof: lemmas. -/
import Derived.Test.YtgbdndlmdklefaaGreatEK33
import Derived.Test.YtgbdndlmdklefaaGreatEK35
import Derived.Test.YtgbdndlmdklefaaGreatEK27
import Derived.Test.YtgbdndlmdklefaaGreatEK28
import Derived.Test.YtgbdndlmdklefaaGreatEK22
import Derived.Laws.Bits64
set_option linter.unusedSimpArgs false
set_option linter.unusedVariables false
set_option maxRecDepth 100000
set_option maxHeartbeats 40000000
namespace Go.Proofs
open Go Go.Mu
variable {S:MC Tryz.prog}
theorem Ear_eta(e:Ear):(⟨e.slack,e.tones,e.rds⟩: Ear)=e:=rfl
theorem ii_plain{a b:Int}:Plain (.tup [.int .i64 a,.int .i64 b]):= .tup (by simp;exact⟨.int,.int⟩)
theorem gateW_ok{m x w:Int}(h:gateW m x w=0):(0≤x∧x≤m-1)∧0≤w:=by unfold gateW at h;grind
theorem gate_p(e:Ear)(x width:Int)(h1:e.tones.length≤4294967296)(h2:e.rds.length≤4294967296):PureV S 133 [e.av,.int .i64 x,.int .i64 width] (.tup [.int .i64 (gateL e x width).1,.int .i64 (gateL e x width).2]):=by
 refine PvE (Tryz.envOK (S:=S) 63 (fun _=>([],[])) fs9 fs9_ok) (ii_plain) Tryz.kp133 Tryz.func133 rfl ?_
 intro σ
 simp only[Ear.av]
 by_cases hk:(askL e (gateW e.tones.length x width)).2=0
 ·obtain⟨hc,hw,hn,hke⟩:=askL_ok hk
  rw[hw] at hke
  have he:=okE_of_ck hc
  obtain⟨hx,hwd⟩:=gateW_ok hw
  have hlen:=he.len
  have htl:=truthsL_len he
  have hx2:0≤x∧x≤2:=by omega
  have hke':askL ⟨e.slack,e.tones,e.rds⟩ 0=(truthsL e,0):=hke
  simp -implicitDefEqProofs (maxSteps:=9^9) (disch:=omega) only[go_sem,simprocAttr,hke',tavs]
  refine ARun.forS (Tryz.envOK (S:=S) 63 (fun _=>([],[])) fs9 fs9_ok) 20 (fun i=>∀k,k<i→gateS e.slack (truthsL e) x width (k+1)=false) (fun i=>[(11,.int .i64 ((i:Int)+1))]) (fun _ j=>σ++(.cells e.cells:: .cells [.int .i64 x]::j)) [] (by kernel_rfl) (by simp[Ear.cells]) (by simp[upd,ins,subF,lookA]) (by simp) ?_ ?_
  ·intro i j hi hP ih
   have hr:okR ⟨1,x,0,(i:Int)+1,⟨0,0⟩⟩:=⟨by simp only;omega,hx2,by simp only;omega,by simp only;omega,by simp only;omega,by simp only;omega⟩
   simp -implicitDefEqProofs (maxSteps:=9^9) (disch:=omega) only[go_sem,simprocAttr,Ear.cells,giveB_rdv]
   refine outcomes_c ⟨1,x,0,(i:Int)+1,⟨0,0⟩⟩ e.slack (truthsL e) hr he.sl (by omega) (truthsL_ok he) _ _ fun τ m hO hm=>?_
   have hmap:=hO.map
   have hlenS:=hO.len
   have hold:=hO.old
   have hs0:=hold σ.length (by simp)
   have hs1:=hold (σ.length+1) (by simp)
   rw[hget_at0] at hs0
   rw[hget_at] at hs1
   simp only[List.getElem?_cons_zero,List.getElem?_cons_succ] at hs0 hs1
   simp only[List.length_append,List.length_cons] at hmap hlenS hold
   generalize hrm:σ.length+(j.length+1+1)=rm at hmap hlenS hold
   have hml:(mapT m).length=m.length:=by simp[mapT]
   simp -implicitDefEqProofs (maxSteps:=9^9) (disch:=omega) only[go_sem,simprocAttr,hmap,hrm,hml]
   let Ok (i2:Nat):Prop:=∀p,m[i2]? = some p→(spanL (fun t=>tg t x) p.2.2).hi- (spanL (fun t=>tg t x) p.2.2).lo≤width
   refine ARun.loopJ (Tryz.envOK (S:=S) 63 (fun _=>([],[])) fs9 fs9_ok) (α:=List Nat) (fun seen=>m.length-seen.length) (fun seen τ'=>τ.length<τ'.length∧(∀q,q<σ.length→hget τ' q=hget σ q)∧hget τ' σ.length=some (.cells e.cells)∧hget τ' (σ.length+1)=some (.cells [.int .i64 x])∧hget τ' rm=some (.map (mapT m))∧hget τ' τ.length=some (.iter (some rm) m.length seen)∧seen.Nodup∧(∀i2∈seen,i2<m.length∧Ok i2)) (fun _=>[]) [] (by kernel_rfl) (by simp[upd,ins,subF,lookA]) ?_ ?_
   ·refine⟨by simp,fun q hq=>?_,?_,?_,?_,hget_at0,by simp,by simp⟩
    ·rw[hget_app (by omega),hold q (by omega),hget_app hq]
    ·rw[hget_app (by omega)];exact hs0
    ·rw[hget_app (by omega)];exact hs1
    ·rw[hget_app (by omega)];exact hmap
   ·rintro seen τ' ⟨j1,j2,j3,j4,j5,j6,j7,j8⟩ ih2
    simp -implicitDefEqProofs (maxSteps:=9^9) (disch:=omega) only[go_sem,simprocAttr]
    refine nextA_intro j6 j5 hml.symm (fun i2 k v hi2 hns=>?_) (fun hall=>?_)
    ·obtain⟨p,hp,hkv⟩:∃p,m[i2]? = some p∧(AV.int .i64 p.1,AV.list (.own p.2.1) 3 (p.2.2.map tav))=(k,v):=by simpa[mapT] using hi2
     simp only[Prod.mk.injEq] at hkv
     obtain⟨rfl,rfl⟩:=hkv
     have hpm:p∈m:=List.mem_of_getElem? hp
     obtain⟨hi2l,_⟩:=List.getElem?_eq_some_iff.1 hp
     have hpo:(p.1,p.2.2)∈outcomesL ⟨1,x,0,(i:Int)+1,⟨0,0⟩⟩ e.slack (truthsL e):=by rw[← hm];exact List.mem_map.2 ⟨p,hpm,rfl⟩
     obtain⟨hne,hsub⟩:=outcomes_sub _ hpo
     simp only at hne hsub
     have htlp:=(hO.tl p hpm).2.2
     have hsm:∀t∈p.2.2,t.length=3∧small t:=fun t ht=>truthsL_ok he t (hsub t ht)
     obtain⟨b1,b2,b3,b4⟩:=spanL_bound (fun t ht=>(hsm t ht).2) hne x
     have hrτ:rm<τ.length:=hget_lt hmap
     have k1:hget (hset τ' τ.length (.iter (some rm) m.length (seen++[i2]))) τ.length=some (.iter (some rm) m.length (seen++[i2])):=hget_set j6 _
     have k2:∀q,q≠τ.length→hget (hset τ' τ.length (.iter (some rm) m.length (seen++[i2]))) q=hget τ' q:=fun q hq=>hget_ne (fun e=>hq e.symm)
     have k3:(hset τ' τ.length (.iter (some rm) m.length (seen++[i2]))).length=τ'.length:=length_hset
     generalize hset τ' τ.length (.iter (some rm) m.length (seen++[i2]))=τ1 at k1 k2 k3⊢
     have k5:hget τ1 rm=some (.map (mapT m)):=by rw[k2 _ (by omega)];exact j5
     have k6:hget τ1 (σ.length+1)=some (.cells [.int .i64 x]):=by rw[k2 _ (by omega)];exact j4
     have hgl:(seen++[i2]).getLast? = some i2:=by simp
     simp -implicitDefEqProofs (maxSteps:=9^9) (disch:=omega) only[go_sem,simprocAttr,k1,k5,hgl,hi2,hml]
     refine ACalls.weaken (l':=[tavs p.2.2,.fn (.func 171) [] [.ptr (σ.length+1) 0]]) ⟨⟨rfl,.inl rfl,.inl rfl⟩,rfl,trivial⟩ (span_c (fun t=>tg t x) p.2.2 hne (by omega) (fun t ht=>(hsm t ht).1) (fun t ht=>gate1_v k6 hx2 (hsm t ht).1) _ ?_)
     by_cases hcmp:width<(spanL (fun t=>tg t x) p.2.2).hi- (spanL (fun t=>tg t x) p.2.2).lo
     ·simp -implicitDefEqProofs (maxSteps:=9^9) (disch:=omega) only[go_sem,simprocAttr,Rng.av]
      have hg:gateS e.slack (truthsL e) x width ((i:Int)+1)=false:=by
       unfold gateS
       rw[List.all_eq_false]
       exact⟨_,hpo,by simp only[decide_eq_true_eq];omega⟩
      obtain⟨j',hj'⟩:=app_of_same (σ:=σ++[.cells e.cells,.cells [.int .i64 x]]) (τ:=τ1++[.cells [.int .i64 (spanL (fun t=>tg t x) p.2.2).lo,.int .i64 (spanL (fun t=>tg t x) p.2.2).hi]]) (by simp;omega) (fun q hq=>by
       simp only[List.length_append,List.length_cons,List.length_nil] at hq
       rw[hget_app (by omega),k2 _ (by omega)]
       rcases(by omega:q<σ.length∨q=σ.length∨q=σ.length+1) with hq' | rfl | rfl
       ·rw[j2 q hq',hget_app hq']
       ·rw[j3,hget_at0];rfl
       ·rw[j4,hget_at];rfl)
      rw[hj',List.append_assoc]
      refine(ih (fun k hk2=>?_) j').castS rfl (by simp[upd,ins,subF,lookA])
      rcases(by omega:k<i∨k=i) with hk3 | rfl
      ·exact hP k hk3
      ·exact hg
     ·simp -implicitDefEqProofs (maxSteps:=9^9) (disch:=omega) only[go_sem,simprocAttr,Rng.av]
      have hnd:(seen++[i2]).Nodup:=by
       rw[List.nodup_append]
       exact⟨j7,by simp,fun a ha b hb e=>by simp at hb;subst hb;exact hns (e▸ha)⟩
      have hall2:∀i3∈seen++[i2],i3<m.length∧Ok i3:=fun i3 h3=>by
       rcases List.mem_append.1 h3 with h3 | h3
       ·exact j8 i3 h3
       ·simp at h3;subst h3
        refine⟨hi2l,fun p' hp'=>?_⟩
        rw[hp] at hp';simp at hp';subst hp';omega
      have hcard:=nodup_lt hnd (fun i3 h3=>(hall2 i3 h3).1)
      simp only[List.length_append,List.length_cons,List.length_nil] at hcard
      refine(ih2 (seen++[i2]) _ (by simp only[List.length_append,List.length_cons,List.length_nil];omega) ⟨by simp;omega,fun q hq=>by rw[hget_app (by omega),k2 _ (by omega)];exact j2 q hq,by rw[hget_app (by omega),k2 _ (by omega)];exact j3,by rw[hget_app (by omega)];exact k6,by rw[hget_app (by omega)];exact k5,by rw[hget_app (by omega)];exact k1,hnd,hall2⟩).castS rfl (by simp[upd,ins,subF,lookA])
    ·have hg:gateS e.slack (truthsL e) x width ((i:Int)+1)=true:=by
      unfold gateS
      rw[List.all_eq_true]
      intro p' hp'
      rw[← hm] at hp'
      obtain⟨p,hp,rfl⟩:=List.mem_map.1 hp'
      obtain⟨i2,hi2,rfl⟩:=List.mem_iff_getElem.1 hp
      have:=(j8 i2 (hall i2 (by rw[hml];exact hi2))).2 _ (List.getElem?_eq_getElem hi2)
      simpa using this
     have hf:=find_range (f:=fun k:Nat=>gateS e.slack (truthsL e) x width (k+1)) hi hP hg
     simp -implicitDefEqProofs (maxSteps:=9^9) (disch:=omega) only[go_sem,simprocAttr]
     refine gives_same (by omega) (fun q hq=>j2 q hq) ?_
     simp[gateL,hk,hf,wk,wkL,wk1,wk0]
  ·intro j hP
   have hf:=find_none (f:=fun k:Nat=>gateS e.slack (truthsL e) x width (k+1)) (n:=20) hP
   simp -implicitDefEqProofs (maxSteps:=9^9) (disch:=omega) only[go_sem,simprocAttr]
   simp[gateL,hk,hf]
 ·have hk':¬(askL ⟨e.slack,e.tones,e.rds⟩ (gateW e.tones.length x width)).2=0:=hk
  by_cases hx:0≤x∧x≤(e.tones.length:Int)-1
  ·by_cases hw:width<0
   ·have hv:gateW e.tones.length x width=1:=by simp[gateW,hx,hw]
    rw[hv] at hk'
    simp -implicitDefEqProofs (maxSteps:=9^9) (disch:=omega) only[go_sem,simprocAttr,hk',tavs]
    rw[hv] at hk
    simp[gateL,hk,hv,Ear_eta]
   ·have hv:gateW e.tones.length x width=0:=by simp[gateW,hx,hw]
    rw[hv] at hk'
    simp -implicitDefEqProofs (maxSteps:=9^9) (disch:=omega) only[go_sem,simprocAttr,hk',tavs]
    rw[hv] at hk
    simp[gateL,hk,hv,Ear_eta]
  ·have hv:gateW e.tones.length x width=3:=by unfold gateW;rw[if_neg hx]
   rw[hv] at hk'
   simp -implicitDefEqProofs (maxSteps:=9^9) (disch:=omega) only[go_sem,simprocAttr,hk',tavs,hx]
   rw[hv] at hk
   simp[gateL,hk,hv,Ear_eta]
def gate_s:=spec3 tEar tI tI fun e a b=>if e.tones.length≤4294967296∧e.rds.length≤4294967296 then some (.tup [.int .i64 (gateL e a b).1,.int .i64 (gateL e a b).2]) else none
theorem gate_ok:∀xs v,gate_s xs=some v→PureV S 133 xs v:=
 spec3_ok fun e a b v h=>by have h:=someIf h;rw[← h.2];exact gate_p e a b h.1.1 h.1.2
def fs10(f:FuncId)(xs:List AV):Option AV:=if f=133 then gate_s xs else fs9 f xs
theorem fs10_ok{S:MC Tryz.prog}:∀f xs v,fs10 f xs=some v→PureV S f xs v:=by
 intro f xs v h
 unfold fs10 at h
 split at h
 ·rename_i e;subst e;exact gate_ok _ _ h
 exact fs9_ok _ _ _ h
attribute [go_sem] fs10 gate_s
end Go.Proofs
namespace Go.Proofs
open Go Go.Mu
end Go.Proofs
namespace Go.Proofs
open Go Go.Mu
variable {S:MC Tryz.prog}
def fs11(f:FuncId)(xs:List AV):Option AV:=  fs10 f xs
theorem fs11_ok{S:MC Tryz.prog}:∀f xs v,fs11 f xs=some v→PureV S f xs v:=by
 intro f xs v h
 unfold fs11 at h
 exact fs10_ok _ _ _ h
attribute [go_sem] fs11
def fs12(f:FuncId)(xs:List AV):Option AV:=  fs11 f xs
theorem fs12_ok{S:MC Tryz.prog}:∀f xs v,fs12 f xs=some v→PureV S f xs v:=by
 intro f xs v h
 unfold fs12 at h
 exact fs11_ok _ _ _ h
attribute [go_sem] fs12
theorem Ear.plain(e:Ear):Plain e.av:= .agg (by simp;exact⟨.int,.map fun x _=>Rng.plain x,.map fun x _=>Rd.plain x⟩)
def fs13(f:FuncId)(xs:List AV):Option AV:=  fs12 f xs
theorem fs13_ok{S:MC Tryz.prog}:∀f xs v,fs13 f xs=some v→PureV S f xs v:=by
 intro f xs v h
 unfold fs13 at h
 exact fs12_ok _ _ _ h
attribute [go_sem] fs13
theorem rngs_plain(l:List Rng):Plain (.list .no 2 (l.map Rng.av)):= .map fun x _=>Rng.plain x
theorem ranges_p(l:List Rng)(hl:l.length≤4294967296):PureV S 143 [.list .no 2 (l.map Rng.av)] (.list .no 2 (l.map Rng.av)):=by
 refine PvE (Tryz.envOK (S:=S) 6 (fun _=>([],[])) fs0 fs0_ok) (rngs_plain _) Tryz.kp143 Tryz.func143 rfl ?_
 intro σ
 simp -implicitDefEqProofs (maxSteps:=9^9) (disch:=omega) only[go_sem,simprocAttr]
def tRngs:Ty (List Rng):=⟨decL 2 decRng,fun l=> .list .no 2 (l.map Rng.av),decL_inv' decRng_inv⟩
theorem tRngs_dec{a:AV}:tRngs.dec a=decL 2 decRng a:=rfl
def ranges_s:=spec1 tRngs fun l=>if l.length≤4294967296 then some (.list .no 2 (l.map Rng.av)) else none
theorem ranges_ok:∀xs v,ranges_s xs=some v→PureV S 143 xs v:=
 spec1_ok fun l v h=>by have h:=someIf h;rw[← h.2];exact ranges_p l h.1
theorem sameRanges_p(a b:List Rng)(hl:a.length≤4294967296)(hl2:b.length≤4294967296):PureV S 44 [.list .no 2 (a.map Rng.av),.list .no 2 (b.map Rng.av)] (.bool (decide (a=b))):=by
 refine PvE (Tryz.envOK (S:=S) 31 Tryz.ord44 fs0 fs0_ok) (.bool) Tryz.kp44 Tryz.func44 rfl ?_
 intro σ
 simp -implicitDefEqProofs (maxSteps:=9^9) (disch:=omega) only[go_sem,simprocAttr]
 have hcl:∀x:Rng,x.av.cells=[.int .i64 x.lo,.int .i64 x.hi]:=fun _=>rfl
 have hse:∀x y:Rng,([x.lo,x.hi]==[y.lo,y.hi])=decide (x=y):=fun x y=>by
  rw[Bool.eq_iff_iff];cases x;cases y;simp
 have fin:∀b0:Bool,b0=decide (a.length=b.length)→∀(i:Nat) (c:Bool),i≤a.length→c=(decide (a.length=b.length)&&decide (a.take i=b.take i))→(c=false∨i=a.length)→c=decide (a=b):=by
  intro b0 hb0 i c hi hc h
  rcases h with rfl | rfl
  ·symm;rw[decide_eq_false_iff_not];rintro rfl;simp at hc
  ·rw[hc,List.take_length]
   by_cases hl:a.length=b.length
   ·rw[hl,List.take_length];simp[hl]
   ·have:¬a=b:=fun e=>hl (by rw[e])
    simp[hl,this]
 refine⟨fun hlen=>?_,fun hlen=>?_⟩
 ·have hlen':a.length=b.length:=by omega
  refine ARun.loopJ (Tryz.envOK (S:=S) 31 Tryz.ord44 fs0 fs0_ok) (α:=Nat×Bool) (fun p=>a.length-p.1) (fun p τ=>τ=σ∧p.1≤a.length∧p.2=(decide (a.length=b.length)&&decide (a.take p.1=b.take p.1))) (fun p=>[(5,.bool p.2),(6,.int .i64 p.1)]) (0,true) (by kernel_rfl) (by simp[upd,ins,subF,lookA]) ⟨rfl,Nat.zero_le _,by simp[hlen']⟩ ?_
  rintro⟨i,c⟩ τ ⟨rfl,hi,hc⟩ ih
  simp only at hi hc ih
  have hfin:=fin _ rfl i c hi hc
  cases c
  ·simp -implicitDefEqProofs (maxSteps:=9^9) (disch:=omega) only[go_sem,simprocAttr]
   simpa using hfin
  ·by_cases hlt:i<a.length
   ·simp -implicitDefEqProofs (maxSteps:=9^9) (disch:=omega) only[go_sem,simprocAttr,hcl]
    have hib:i<b.length:=by omega
    have ta:=List.take_succ_eq_append_getElem hlt
    have tb:=List.take_succ_eq_append_getElem hib
    have hx:([a[i].lo,a[i].hi]=[b[i].lo,b[i].hi])=(a[i]=b[i]):=by
     have:=hse a[i] b[i]
     rw[Bool.eq_iff_iff] at this
     simpa using this
    have htk:a.take i=b.take i:=by simpa[hlen'] using hc
    rw[hx]
    refine⟨fun h=>(ih (i+1,true) _ (by simp only;omega) ⟨rfl,by simp only;omega,?_⟩).castS rfl (by simp[upd,ins,subF,lookA]),fun h=>(ih (i+1,false) _ (by simp only;omega) ⟨rfl,by simp only;omega,?_⟩).castS rfl (by simp[upd,ins,subF,lookA])⟩
    ·have:a.take (i+1)=b.take (i+1):=by rw[ta,tb,htk,h]
     simp[this,hlen']
    ·have:¬a.take (i+1)=b.take (i+1):=fun e2=>by
      rw[ta,tb,htk] at e2
      exact h (by simpa only[List.append_cancel_left_eq,List.cons.injEq,and_true] using e2)
     simp[this]
   ·have:i=a.length:=by omega
    simp -implicitDefEqProofs (maxSteps:=9^9) (disch:=omega) only[go_sem,simprocAttr]
    simpa[this] using hfin
 ·have hlen':¬a.length=b.length:=by omega
  refine ARun.loopJ (Tryz.envOK (S:=S) 31 Tryz.ord44 fs0 fs0_ok) (α:=Nat×Bool) (fun p=>a.length-p.1) (fun p τ=>τ=σ∧p.1≤a.length∧p.2=false) (fun p=>[(5,.bool p.2),(6,.int .i64 p.1)]) (0,false) (by kernel_rfl) (by simp[upd,ins,subF,lookA]) ⟨rfl,Nat.zero_le _,rfl⟩ ?_
  rintro⟨i,c⟩ τ ⟨rfl,hi,hc⟩ ih
  simp only at hi hc ih
  subst hc
  simp -implicitDefEqProofs (maxSteps:=9^9) (disch:=omega) only[go_sem,simprocAttr]
  have:¬a=b:=fun e=>hlen' (by rw[e])
  simp[this]
def sameRanges_s:=spec2 tRngs tRngs fun a b=>if a.length≤4294967296∧b.length≤4294967296 then some (.bool (decide (a=b))) else none
theorem sameRanges_ok:∀xs v,sameRanges_s xs=some v→PureV S 44 xs v:=
 spec2_ok fun a b v h=>by have h:=someIf h;rw[← h.2];exact sameRanges_p a b h.1.1 h.1.2
def fs14(f:FuncId)(xs:List AV):Option AV:=if f=143 then ranges_s xs else if f=44 then sameRanges_s xs else fs13 f xs
theorem fs14_ok{S:MC Tryz.prog}:∀f xs v,fs14 f xs=some v→PureV S f xs v:=by
 intro f xs v h
 unfold fs14 at h
 split at h
 ·rename_i e;subst e;exact ranges_ok _ _ h
 split at h
 ·rename_i e;subst e;exact sameRanges_ok _ _ h
 exact fs13_ok _ _ _ h
attribute [go_sem] fs14 ranges_s sameRanges_s
theorem newPot_c(l:List Int)(tk:Tok)(hl:l.length≤4294967296)(σ:List AObj)(Q:AV→List AObj→Prop)(h:∀s junk,Q (.ptr σ.length 0) (σ++(.cells [.int .u64 s]::junk))):ACalls S 19 [.list tk 1 (l.map (.int .i64))] σ Q:=by
 refine AcE (Tryz.envOK (S:=S) 41 Tryz.ord19 fs0 fs0_ok) Tryz.kp19 Tryz.func19 rfl ?_
 simp -implicitDefEqProofs (maxSteps:=9^9) (disch:=omega) only[go_sem,simprocAttr]
 refine ARun.forJ (Tryz.envOK (S:=S) 41 Tryz.ord19 fs0 fs0_ok) l.length (fun i τ=>∃s j,τ=σ++(.cells [.int .u64 s]::j)) (fun i=>[(4,.int .i64 i)]) (by kernel_rfl) (by simp[upd,ins,subF,lookA]) ⟨_,[],rfl⟩ ?_ ?_
 ·rintro i τ hi ⟨s,j,rfl⟩ ih
  simp -implicitDefEqProofs (maxSteps:=9^9) (disch:=omega) only[go_sem,simprocAttr]
  exact(ih _ ⟨_,_,rfl⟩).castS rfl (by simp[upd,ins,subF,lookA])
 ·rintro τ ⟨s,j,rfl⟩
  simp -implicitDefEqProofs (maxSteps:=9^9) (disch:=omega) only[go_sem,simprocAttr]
  exact h _ _
attribute [go_sem] tRngs_dec
theorem ARun.once{E:Env}(hE:EnvOK E){ro:Option Nat}{c:Code}{k:List Item}{kp:Nat→Bool}{tm sl:List (Nat×AV)}{σ:List AObj}{Q:Post}
  (hO:todoOK E (.code c:: .inLoop c::k)=true) (h:ev E ro 100000 (.code c:: .inLoop c::k) ⟨kp,[],sl⟩ σ Q):ARun E ro (.code (.loop c)::k) ⟨kp,tm,sl⟩ σ Q:=
 ARun.anew (fr:=⟨kp,tm,sl⟩) (.loop (ev_sound hE hO h))
theorem same_step{α:Type}[DecidableEq α]{a b:List α}{i:Nat}(hl:a.length=b.length)(h:i<a.length)(ht:a.take i=b.take i):(a.take (i+1)=b.take (i+1))↔a[i]=b[i]'(by omega):=by
 have ta:=List.take_succ_eq_append_getElem h
 have tb:=List.take_succ_eq_append_getElem (l:=b) (i:=i) (by omega)
 rw[ta,tb,ht]
 simp only[List.append_cancel_left_eq,List.cons.injEq,and_true]
theorem sameInts_p(a b:List Int)(hl:a.length≤4294967296)(hl2:b.length≤4294967296):PureV S 51 [.list .no 1 (a.map (.int .i64)),.list .no 1 (b.map (.int .i64))] (.bool (decide (a=b))):=by
 refine PvE (Tryz.envOK (S:=S) 31 Tryz.ord51 fs0 fs0_ok) (.bool) Tryz.kp51 Tryz.func51 rfl ?_
 intro σ
 by_cases hlen:a.length=b.length
 ·have hz:((a.length:Int)=b.length):=by omega
  simp -implicitDefEqProofs (maxSteps:=9^9) (disch:=omega) only[go_sem,simprocAttr]
  refine ARun.loopJ (Tryz.envOK (S:=S) 31 Tryz.ord51 fs0 fs0_ok) (α:=Nat×Bool) (fun p=>a.length-p.1) (fun p τ=>τ=σ∧p.1≤a.length∧p.2=decide (a.take p.1=b.take p.1)) (fun p=>[(5,.bool p.2),(6,.int .i64 p.1)]) (0,true) (by kernel_rfl) (by simp[upd,ins,subF,lookA]) ⟨rfl,Nat.zero_le _,by simp⟩ ?_
  rintro⟨i,c⟩ τ ⟨rfl,hi,hc⟩ ih
  simp only at hi hc ih
  cases c
  ·simp -implicitDefEqProofs (maxSteps:=9^9) (disch:=omega) only[go_sem,simprocAttr]
   have:¬a=b:=fun e=>by subst e;simp at hc
   simp[this]
  ·have htk:a.take i=b.take i:=by simpa using hc
   by_cases hlt:i<a.length
   ·have hst:=same_step hlen hlt htk
    have hia:idx (a.map (AV.int .i64)) (i:Int)=some (.int .i64 a[i]):=idx_nat hlt
    have hib:idx (b.map (AV.int .i64)) (i:Int)=some (.int .i64 (b[i]'(by omega))):=idx_nat (by omega)
    generalize a[i]=x at hst hia
    generalize b[i]'(by omega)=y at hst hib
    clear hc htk
    simp -implicitDefEqProofs (maxSteps:=9^9) (disch:=omega) only[go_sem,simprocAttr,hia,hib]
    refine⟨fun h=>(ih (i+1,true) _ (by simp only;omega) ⟨rfl,by simp only;omega,?_⟩).castS rfl (by simp[upd,ins,subF,lookA]),fun h=>(ih (i+1,false) _ (by simp only;omega) ⟨rfl,by simp only;omega,?_⟩).castS rfl (by simp[upd,ins,subF,lookA])⟩
    ·simp[hst,h]
    ·simp[hst,h]
   ·have:i=a.length:=by omega
    subst this
    simp -implicitDefEqProofs (maxSteps:=9^9) (disch:=omega) only[go_sem,simprocAttr]
    have:a=b:=by rwa [List.take_length,hlen,List.take_length] at htk
    simp[this]
 ·have hz:¬((a.length:Int)=b.length):=by omega
  have:¬a=b:=fun e=>hlen (by rw[e])
  simp -implicitDefEqProofs (maxSteps:=9^9) (disch:=omega) only[go_sem,simprocAttr]
  refine ARun.once (Tryz.envOK (S:=S) 31 Tryz.ord51 fs0 fs0_ok) (by kernel_rfl) ?_
  simp -implicitDefEqProofs (maxSteps:=9^9) (disch:=omega) only[go_sem,simprocAttr]
  simp[this]
def sameInts_s:=spec2 tIs tIs fun a b=>if a.length≤4294967296∧b.length≤4294967296 then some (.bool (decide (a=b))) else none
theorem sameInts_ok:∀xs v,sameInts_s xs=some v→PureV S 51 xs v:=
 spec2_ok fun a b v h=>by have h:=someIf h;rw[← h.2];exact sameInts_p a b h.1.1 h.1.2
theorem rd_ints(x y:Rd):([x.kind,x.a,x.b,x.sec,x.shown.lo,x.shown.hi]==[y.kind,y.a,y.b,y.sec,y.shown.lo,y.shown.hi])=decide (x=y):=by
 rw[Bool.eq_iff_iff]
 obtain⟨x1,x2,x3,x4,x5,x6⟩:=x
 obtain⟨y1,y2,y3,y4,y5,y6⟩:=y
 simp
theorem sameEars_p(x y:Ear)(h1:x.tones.length≤4294967296)(h2:x.rds.length≤4294967296)(h3:y.tones.length≤4294967296)(h4:y.rds.length≤4294967296):PureV S 101 [x.av,y.av] (.bool (decide (x=y))):=by
 refine PvE (Tryz.envOK (S:=S) 50 Tryz.ord101 fs14 fs14_ok) (.bool) Tryz.kp101 Tryz.func101 rfl ?_
 intro σ
 obtain⟨s,ts,a⟩:=x
 obtain⟨s',us,b⟩:=y
 simp only at h1 h2 h3 h4
 have heq:((⟨s,ts,a⟩: Ear)=⟨s',us,b⟩)=(s=s'∧ts=us∧a=b):=by simp
 rw[show decide ((⟨s,ts,a⟩: Ear)=⟨s',us,b⟩)=decide (s=s'∧ts=us∧a=b) by simp]
 simp only[Ear.av]
 by_cases e1:s=s'
 ·by_cases e2:ts=us
  ·subst e1 e2
   by_cases hlen:a.length=b.length
   ·have hz:((a.length:Int)=b.length):=by omega
    simp -implicitDefEqProofs (maxSteps:=9^9) (disch:=omega) only[go_sem,simprocAttr]
    refine ARun.loopJ (Tryz.envOK (S:=S) 50 Tryz.ord101 fs14 fs14_ok) (α:=Nat×Bool) (fun p=>a.length-p.1) (fun p τ=>τ=σ++[.cells [.int .i64 s,.list .no 2 (ts.map Rng.av),.list .no 6 (a.map Rd.av)],.cells [.int .i64 s,.list .no 2 (ts.map Rng.av),.list .no 6 (b.map Rd.av)]]∧p.1≤a.length∧p.2=decide (a.take p.1=b.take p.1)) (fun p=>[(5,.bool p.2),(6,.int .i64 p.1)]) (0,true) (by kernel_rfl) (by simp[upd,ins,subF,lookA]) ⟨rfl,Nat.zero_le _,by simp⟩ ?_
    rintro⟨i,c⟩ τ ⟨rfl,hi,hc⟩ ih
    simp only at hi hc ih
    cases c
    ·simp -implicitDefEqProofs (maxSteps:=9^9) (disch:=omega) only[go_sem,simprocAttr]
     have:¬a=b:=fun e=>by subst e;simp at hc
     simp[this]
    ·have htk:a.take i=b.take i:=by simpa using hc
     by_cases hlt:i<a.length
     ·have hst:=same_step hlen hlt htk
      have hia:idx (a.map Rd.av) (i:Int)=some a[i].av:=idx_nat hlt
      have hib:idx (b.map Rd.av) (i:Int)=some (b[i]'(by omega)).av:=idx_nat (by omega)
      generalize a[i]=x at hst hia
      generalize b[i]'(by omega)=y at hst hib
      have hrd:=rd_ints x y
      clear hc htk
      simp -implicitDefEqProofs (maxSteps:=9^9) (disch:=omega) only[go_sem,simprocAttr,hia,hib,Rd.av]
      have hx:([x.kind,x.a,x.b,x.sec,x.shown.lo,x.shown.hi]=[y.kind,y.a,y.b,y.sec,y.shown.lo,y.shown.hi])=(x=y):=by
       rw[Bool.eq_iff_iff] at hrd
       simpa using hrd
      rw[hx]
      refine⟨fun h=>(ih (i+1,true) _ (by simp only;omega) ⟨by simp,by simp only;omega,?_⟩).castS rfl (by simp[upd,ins,subF,lookA]),fun h=>(ih (i+1,false) _ (by simp only;omega) ⟨by simp,by simp only;omega,?_⟩).castS rfl (by simp[upd,ins,subF,lookA])⟩
      ·simp[hst,h]
      ·simp[hst,h]
     ·have:i=a.length:=by omega
      subst this
      simp -implicitDefEqProofs (maxSteps:=9^9) (disch:=omega) only[go_sem,simprocAttr]
      have:a=b:=by rwa [List.take_length,hlen,List.take_length] at htk
      simp[this]
   ·have hz:¬((a.length:Int)=b.length):=by omega
    have:¬a=b:=fun e=>hlen (by rw[e])
    simp -implicitDefEqProofs (maxSteps:=9^9) (disch:=omega) only[go_sem,simprocAttr]
    refine ARun.once (Tryz.envOK (S:=S) 50 Tryz.ord101 fs14 fs14_ok) (by kernel_rfl) ?_
    simp -implicitDefEqProofs (maxSteps:=9^9) (disch:=omega) only[go_sem,simprocAttr]
    simp[this]
  ·simp -implicitDefEqProofs (maxSteps:=9^9) (disch:=omega) only[go_sem,simprocAttr,e2]
   refine ARun.once (Tryz.envOK (S:=S) 50 Tryz.ord101 fs14 fs14_ok) (by kernel_rfl) ?_
   simp -implicitDefEqProofs (maxSteps:=9^9) (disch:=omega) only[go_sem,simprocAttr,e2]
 ·simp -implicitDefEqProofs (maxSteps:=9^9) (disch:=omega) only[go_sem,simprocAttr]
  refine ARun.once (Tryz.envOK (S:=S) 50 Tryz.ord101 fs14 fs14_ok) (by kernel_rfl) ?_
  simp -implicitDefEqProofs (maxSteps:=9^9) (disch:=omega) only[go_sem,simprocAttr,e1]
end Go.Proofs
namespace Go.Proofs
open Go Go.Mu Go.Ins
variable {S:MC Tryz.prog}
theorem hto_p(a b:Int):PureV S 60 [.int .i64 a,.int .i64 b] (Rng.mk a b).av:=by
 refine PvE (Tryz.envOK (S:=S) 8 (fun _=>([],[])) fs0 fs0_ok) (Rng.plain _) Tryz.kp60 Tryz.func60 rfl ?_
 intro σ
 simp -implicitDefEqProofs (maxSteps:=9^9) (disch:=omega) only[go_sem,simprocAttr,Rng.av]
def hto_s:=spec2 tI tI fun a b=>some (Rng.mk a b).av
theorem hto_ok:∀xs v,hto_s xs=some v→PureV S 60 xs v:=
 spec2_ok fun a b v h=>by simp only[Option.some.injEq] at h;rw[← h];exact hto_p a b
def fs408(f:FuncId)(xs:List AV):Option AV:=if f=60 then hto_s xs else if f=51 then sameInts_s xs else fs407 f xs
theorem fs408_ok{S:MC Tryz.prog}:∀f xs v,fs408 f xs=some v→PureV S f xs v:=by
 intro f xs v h
 unfold fs408 at h
 split at h
 ·rename_i e;subst e;exact hto_ok _ _ h
 split at h
 ·rename_i e;subst e;exact sameInts_ok _ _ h
 exact fs407_ok _ _ _ h
attribute [go_sem] fs408 hto_s sameInts_s
theorem htuned_p(d b due lo hi:Int):PureV S 63 [.int .i64 d,.int .i64 b,.int .i64 due,.int .i64 lo,.int .i64 hi] (tnd d b due lo hi).av:=by
 refine PvE (Tryz.envOK (S:=S) 20 (fun _=>([],[])) fs408 fs408_ok) ((Plain.agg (Tn.plains _))) Tryz.kp63 Tryz.func63 rfl ?_
 intro σ
 simp -implicitDefEqProofs (maxSteps:=9^9) (disch:=omega) only[go_sem,simprocAttr,Rng.av,Tn.av,Tn.cells,tnd]
theorem shop_p:PureV S 91 [] shopR.av:=by
 refine PvE (Tryz.envOK (S:=S) 7 (fun _=>([],[])) fs408 fs408_ok) (Ros.plain _) Tryz.kp91 Tryz.func91 rfl ?_
 intro σ
 simp -implicitDefEqProofs (maxSteps:=9^9) (disch:=omega) only[go_sem,simprocAttr,Rng.av]
 refine htuned_p _ _ _ _ _ _ _ ?_
 simp -implicitDefEqProofs (maxSteps:=9^9) (disch:=omega) only[go_sem,simprocAttr,Rng.av]
 refine htuned_p _ _ _ _ _ _ _ ?_
 simp -implicitDefEqProofs (maxSteps:=9^9) (disch:=omega) only[go_sem,simprocAttr,Rng.av]
 refine htuned_p _ _ _ _ _ _ _ ?_
 simp only[Tn.av,Tn.cells,tnd,List.map_cons,List.map_nil,Rng.av]
 simp -implicitDefEqProofs (maxSteps:=9^9) (disch:=omega) only[go_sem,simprocAttr,Rng.av,Ros.av,shopR,Tn.av,Tn.cells,tnd]
theorem lone_p:PureV S 90 [] loneR.av:=by
 refine PvE (Tryz.envOK (S:=S) 7 (fun _=>([],[])) fs408 fs408_ok) (Ros.plain _) Tryz.kp90 Tryz.func90 rfl ?_
 intro σ
 simp -implicitDefEqProofs (maxSteps:=9^9) (disch:=omega) only[go_sem,simprocAttr,Rng.av]
 refine shop_p _ _ ?_
 simp only[Ros.av]
 simp -implicitDefEqProofs (maxSteps:=9^9) (disch:=omega) only[go_sem,simprocAttr,Rng.av]
 refine htuned_p _ _ _ _ _ _ _ ?_
 simp only[Tn.av,Tn.cells,tnd,List.map_cons,List.map_nil,Rng.av]
 simp -implicitDefEqProofs (maxSteps:=9^9) (disch:=omega) only[go_sem,simprocAttr,Rng.av,Ros.av,shopR,loneR,Tn.av,Tn.cells,tnd]
theorem hsameLists_p(a b:List (List Int))(hl:a.length≤4294967296)(hl2:b.length≤4294967296)(ha:∀x∈a,x.length≤4294967296)(hb:∀x∈b,x.length≤4294967296):PureV S 50 [.list .no 1 (a.map ints1),.list .no 1 (b.map ints1)] (.bool (decide (a=b))):=by
 refine PvE (Tryz.envOK (S:=S) 31 Tryz.ord50 fs408 fs408_ok) (.bool) Tryz.kp50 Tryz.func50 rfl ?_
 intro σ
 by_cases hlen:a.length=b.length
 ·have hz:((a.length:Int)=b.length):=by omega
  simp -implicitDefEqProofs (maxSteps:=9^9) (disch:=omega) only[go_sem,simprocAttr]
  refine ARun.loopJ (Tryz.envOK (S:=S) 31 Tryz.ord50 fs408 fs408_ok) (α:=Nat×Bool) (fun p=>a.length-p.1) (fun p τ=>τ=σ∧p.1≤a.length∧p.2=decide (a.take p.1=b.take p.1)) (fun p=>[(5,.bool p.2),(6,.int .i64 p.1)]) (0,true) (by kernel_rfl) (by simp[upd,ins,subF,lookA]) ⟨rfl,Nat.zero_le _,by simp⟩ ?_
  rintro⟨i,c⟩ τ ⟨rfl,hi,hc⟩ ih
  simp only at hi hc ih
  cases c
  ·simp -implicitDefEqProofs (maxSteps:=9^9) (disch:=omega) only[go_sem,simprocAttr]
   have:¬a=b:=fun e=>by subst e;simp at hc
   simp[this]
  ·have htk:a.take i=b.take i:=by simpa using hc
   by_cases hlt:i<a.length
   ·have hst:=same_step hlen hlt htk
    have hia:idx (a.map ints1) (i:Int)=some (ints1 a[i]):=idx_nat hlt
    have hib:idx (b.map ints1) (i:Int)=some (ints1 (b[i]'(by omega))):=idx_nat (by omega)
    have hxl:=ha _ (List.getElem_mem hlt)
    have hyl:=hb _ (List.getElem_mem (show i<b.length by omega))
    generalize a[i]=x at hst hia hxl
    generalize b[i]'(by omega)=y at hst hib hyl
    clear hc htk
    simp -implicitDefEqProofs (maxSteps:=9^9) (disch:=omega) only[go_sem,simprocAttr,hia,hib,ints1]
    refine⟨fun h=>(ih (i+1,true) _ (by simp only;omega) ⟨rfl,by simp only;omega,?_⟩).castS rfl (by simp[upd,ins,subF,lookA]),fun h=>(ih (i+1,false) _ (by simp only;omega) ⟨rfl,by simp only;omega,?_⟩).castS rfl (by simp[upd,ins,subF,lookA])⟩
    ·simp[hst,h]
    ·simp[hst,h]
   ·have:i=a.length:=by omega
    subst this
    simp -implicitDefEqProofs (maxSteps:=9^9) (disch:=omega) only[go_sem,simprocAttr]
    have:a=b:=by rwa [List.take_length,hlen,List.take_length] at htk
    simp[this]
 ·have hz:¬((a.length:Int)=b.length):=by omega
  have:¬a=b:=fun e=>hlen (by rw[e])
  simp -implicitDefEqProofs (maxSteps:=9^9) (disch:=omega) only[go_sem,simprocAttr]
  refine ARun.once (Tryz.envOK (S:=S) 31 Tryz.ord50 fs408 fs408_ok) (by kernel_rfl) ?_
  simp -implicitDefEqProofs (maxSteps:=9^9) (disch:=omega) only[go_sem,simprocAttr]
  simp[this]
end Go.Proofs
namespace Go.Proofs
open Go Go.Mu
variable {S:MC Tryz.prog}
def hfits_s:=spec3 tI tI tI fun n lo hi=>some (.bool (decide (lo≤n∧n≤hi)))
theorem hfits_ok:∀xs v,hfits_s xs=some v→PureV S 96 xs v:=by
 refine spec3_ok fun n lo hi v h=>?_
 simp only[Option.some.injEq] at h;subst h
 refine PvE (Tryz.envOK (S:=S) 15 (fun _=>([],[])) fs0 fs0_ok) (.bool) Tryz.kp96 Tryz.func96 rfl ?_
 intro σ
 simp only[tI]
 simp -implicitDefEqProofs (maxSteps:=9^9) (disch:=omega) only[go_sem,simprocAttr]
 refine⟨fun h1=>⟨fun h2=>?_,fun h2=>?_⟩,fun h1=>?_⟩<;> simp[h1, *]
def fs420(f:FuncId)(xs:List AV):Option AV:=if f=96 then hfits_s xs else if f=149 then rtones_s xs else fs109 f xs
theorem fs420_ok{S:MC Tryz.prog}:∀f xs v,fs420 f xs=some v→PureV S f xs v:=by
 intro f xs v h
 unfold fs420 at h
 split at h
 ·rename_i e;subst e;exact hfits_ok _ _ h
 split at h
 ·rename_i e;subst e;exact rtones_ok _ _ h
 exact fs109_ok _ _ _ h
attribute [go_sem] fs420 hfits_s rtones_s
def rEnt(x:Tn)(hands:Int):Int:=
 if¬(0≤x.day∧x.day≤60) then 1 else if¬(-1≤x.hand∧x.hand≤IntKind.i64.wrap (hands-1)) then 3 else if¬(1≤x.due∧x.due≤100000) then 1
 else if ck x.ear≠0 then ck x.ear else if 1<x.ear.tones.length then 6 else(tonesL x.ear).2
theorem rEnt_p(r:Ros)(x:Tn)(h1:x.ear.tones.length≤1000000)(h2:x.ear.rds.length≤1000000):PureV S 105 [r.av,x.av] (.int .i64 (rEnt x r.hands)):=by
 refine PvE (Tryz.envOK (S:=S) 41 (fun _=>([],[])) fs420 fs420_ok) (.int) Tryz.kp105 Tryz.func105 rfl ?_
 intro σ
 obtain⟨day,hand,due,ear⟩:=x
 obtain⟨sl,ts,rs⟩:=ear
 simp only[Ros.av,Tn.av,Tn.cells] at h1 h2⊢
 unfold rEnt
 simp only
 by_cases c1:0≤day∧day≤60
 ·rw[if_neg (by omega)]
  by_cases c2: -1≤hand∧hand≤IntKind.i64.wrap (r.hands-1)
  ·rw[if_neg (fun c=>c c2)]
   by_cases c3:1≤due∧due≤100000
   ·rw[if_neg (fun c=>c c3)]
    generalize hk:ck ⟨sl,ts,rs⟩= k
    generalize ht:tonesL ⟨sl,ts,rs⟩= T
    obtain⟨T1,T2⟩:=T
    by_cases c4:k=0
    ·subst c4
     rw[if_neg (by simp)]
     by_cases c5:1<ts.length
     ·rw[if_pos c5]
      have c5':(1<(ts.length:Int))=True:=eq_true (by omega)
      simp -implicitDefEqProofs (maxSteps:=9^9) (disch:=omega) only[go_sem,simprocAttr,c1,c2,c3,hk,ht,c5']
     ·rw[if_neg c5]
      have c5':(1<(ts.length:Int))=False:=eq_false (by omega)
      simp -implicitDefEqProofs (maxSteps:=9^9) (disch:=omega) only[go_sem,simprocAttr,c1,c2,c3,hk,ht,c5']
    ·rw[if_pos c4]
     simp -implicitDefEqProofs (maxSteps:=9^9) (disch:=omega) only[go_sem,simprocAttr,c1,c2,c3,hk,ht,c4]
   ·rw[if_pos c3]
    simp -implicitDefEqProofs (maxSteps:=9^9) (disch:=omega) only[go_sem,simprocAttr,c1,c2,c3]
  ·rw[if_pos c2]
   simp -implicitDefEqProofs (maxSteps:=9^9) (disch:=omega) only[go_sem,simprocAttr,c1,c2]
 ·rw[if_pos c1]
  simp -implicitDefEqProofs (maxSteps:=9^9) (disch:=omega) only[go_sem,simprocAttr,c1]
def rosR(r:Ros):Int:=if headE r≠0 then headE r else firstE (fun x=>rEnt x r.hands) r.ents
theorem rCheck11_p(r:Ros)(h1:r.sets.length≤1000000)(h2:r.ents.length≤1000000)(h3:∀x∈r.ents,x.ear.tones.length≤1000000∧x.ear.rds.length≤1000000):PureV S 43 [r.av] (.int .i64 (rosR r)):=by
 refine PvE (Tryz.envOK (S:=S) 88 Tryz.ord43 fs420 fs420_ok) (.int) Tryz.kp43 Tryz.func43 rfl ?_
 intro σ
 have hent:=fun x hx=>rEnt_p (S:=S) r x (h3 x hx).1 (h3 x hx).2
 obtain⟨hands,skill,mn,mx,sets,ents⟩:=r
 simp only[Ros.av] at h1 h2 h3 hent⊢
 unfold rosR
 simp only
 by_cases c1:1≤hands∧hands≤4
 ·have d1:decide (1≤hands∧hands≤4)=true:=decide_eq_true c1
  by_cases c2:0≤skill∧skill≤9
  ·have d2:decide (0≤skill∧skill≤9)=true:=decide_eq_true c2
   by_cases c3: -5≤mn∧mn≤5
   ·have d3:decide (-5≤mn∧mn≤5)=true:=decide_eq_true c3
    by_cases c4: -5≤mx∧mx≤5
    ·have d4:decide (-5≤mx∧mx≤5)=true:=decide_eq_true c4
     by_cases c5:mx<mn
     ·have c5':(mx<mn)=True:=eq_true c5
      simp -implicitDefEqProofs (maxSteps:=9^9) (disch:=omega) only[go_sem,simprocAttr,d1,d2,d3,d4,c5']
      simp[headE,c1,c2,c3,c4,c5]
     ·have c5':(mx<mn)=False:=eq_false c5
      by_cases c6:4<sets.length
      ·have c6':(4<(sets.length:Int))=True:=eq_true (by omega)
       simp -implicitDefEqProofs (maxSteps:=9^9) (disch:=omega) only[go_sem,simprocAttr,d1,d2,d3,d4,c5',c6']
       simp[headE,c1,c2,c3,c4,c5,c6]
      ·have c6':(4<(sets.length:Int))=False:=eq_false (by omega)
       have hH:headE ⟨hands,skill,mn,mx,sets,ents⟩= if firstE (setE hands) sets≠0 then firstE (setE hands) sets else if 5<ents.length then 6 else 0:=by
        simp[headE,c1,c2,c3,c4,c5,c6]
       rw[hH]
       have hw:IntKind.i64.wrap (hands-1)=hands-1:=wrap64 (by omega) (by omega)
       simp -implicitDefEqProofs (maxSteps:=9^9) (disch:=omega) only[go_sem,simprocAttr,d1,d2,d3,d4,c5',c6']
       refine ARun.forS (Tryz.envOK (S:=S) 88 Tryz.ord43 fs420 fs420_ok) sets.length (fun i=>firstE (setE hands) (sets.drop i)=firstE (setE hands) sets) (fun i=>[(3,.int .i64 i)]) (fun _ _=>σ++[.cells [.int .i64 hands,.int .i64 skill,.int .i64 mn,.int .i64 mx,.list .no 2 (sets.map Sg.av),.list .no 6 (ents.map Tn.av)]]) [] (by kernel_rfl) rfl (by simp[upd,ins,subF,lookA]) (by simp) ?_ ?_
       ·intro i j hi hp ih
        rw[firstE_drop hi] at hp
        have hidx:idx (sets.map Sg.av) (i:Int)=some (Sg.av sets[i]):=idx_nat hi
        have hwi:IntKind.i64.wrap ((i:Int)+1)=((i+1:Nat):Int):=by rw[wrap64 (by omega) (by omega)];rfl
        generalize sets[i]=s at hidx hp
        simp only[Sg.av] at hidx
        by_cases p1:0≤s.hand∧s.hand≤hands-1
        ·have p1':decide (0≤s.hand∧s.hand≤hands-1)=true:=decide_eq_true p1
         by_cases p2:0≤s.day∧s.day≤60
         ·have p2':decide (0≤s.day∧s.day≤60)=true:=decide_eq_true p2
          have e:setE hands s=0:=by simp[setE,p1,p2]
          rw[e,if_pos rfl] at hp
          simp -implicitDefEqProofs (maxSteps:=9^9) (disch:=omega) only[go_sem,simprocAttr,hidx,hw,p1',p2',hwi]
          exact(ih hp []).castS rfl (by simp[upd,ins,subF,lookA])
         ·have p2':decide (0≤s.day∧s.day≤60)=false:=decide_eq_false p2
          have e:setE hands s=1:=by unfold setE;rw[if_neg (fun c=>c p1),if_pos p2]
          rw[e,if_neg (by decide)] at hp
          rw[← hp]
          simp -implicitDefEqProofs (maxSteps:=9^9) (disch:=omega) only[go_sem,simprocAttr,hidx,hw,p1',p2']
        ·have p1':decide (0≤s.hand∧s.hand≤hands-1)=false:=decide_eq_false p1
         have e:setE hands s=3:=by unfold setE;rw[if_pos p1]
         rw[e,if_neg (by decide)] at hp
         rw[← hp]
         simp -implicitDefEqProofs (maxSteps:=9^9) (disch:=omega) only[go_sem,simprocAttr,hidx,hw,p1']
       ·intro j hp
        rw[firstE_end] at hp
        rw[← hp]
        by_cases c7:5<ents.length
        ·have c7':(5<(ents.length:Int))=True:=eq_true (by omega)
         rw[show(if¬(0:Int)=0 then(0:Int) else if 5<ents.length then 6 else 0)=6 by simp[c7],if_pos (by decide)]
         simp -implicitDefEqProofs (maxSteps:=9^9) (disch:=omega) only[go_sem,simprocAttr,c7']
        ·have c7':(5<(ents.length:Int))=False:=eq_false (by omega)
         rw[show(if¬(0:Int)=0 then(0:Int) else if 5<ents.length then 6 else 0)=0 by simp[c7],if_neg (by decide)]
         simp -implicitDefEqProofs (maxSteps:=9^9) (disch:=omega) only[go_sem,simprocAttr,c7']
         refine ARun.forS (Tryz.envOK (S:=S) 88 Tryz.ord43 fs420 fs420_ok) ents.length (fun i=>firstE (fun x=>rEnt x hands) (ents.drop i)=firstE (fun x=>rEnt x hands) ents) (fun i=>[(4,.int .i64 i)]) (fun _ _=>σ++[.cells [.int .i64 hands,.int .i64 skill,.int .i64 mn,.int .i64 mx,.list .no 2 (sets.map Sg.av),.list .no 6 (ents.map Tn.av)]]) [] (by kernel_rfl) rfl (by simp[upd,ins,subF,lookA]) (by simp) ?_ ?_
         ·intro i j hi hp ih
          rw[firstE_drop hi] at hp
          have hidx:idx (ents.map Tn.av) (i:Int)=some (Tn.av ents[i]):=idx_nat hi
          have hwi:IntKind.i64.wrap ((i:Int)+1)=((i+1:Nat):Int):=by rw[wrap64 (by omega) (by omega)];rfl
          have he:=hent _ (List.getElem_mem hi)
          generalize ents[i]=x at hidx hp he
          simp only[Tn.av,Tn.cells] at hidx
          simp -implicitDefEqProofs (maxSteps:=9^9) (disch:=omega) only[go_sem,simprocAttr,hidx]
          refine he _ _ ?_
          generalize rEnt x hands=v at hp⊢
          by_cases hv:v=0
          ·rw[if_pos hv] at hp
           simp -implicitDefEqProofs (maxSteps:=9^9) (disch:=omega) only[go_sem,simprocAttr,hidx,hv,hwi]
           exact(ih hp []).castS rfl (by simp[upd,ins,subF,lookA])
          ·rw[if_neg hv] at hp
           have hv':(v=0)=False:=eq_false hv
           rw[← hp]
           simp -implicitDefEqProofs (maxSteps:=9^9) (disch:=omega) only[go_sem,simprocAttr,hidx,hv']
         ·intro j hp
          rw[firstE_end] at hp
          rw[← hp]
          simp -implicitDefEqProofs (maxSteps:=9^9) (disch:=omega) only[go_sem,simprocAttr]
    ·have d4:decide (-5≤mx∧mx≤5)=false:=decide_eq_false c4
     simp -implicitDefEqProofs (maxSteps:=9^9) (disch:=omega) only[go_sem,simprocAttr,d1,d2,d3,d4]
     simp[headE,c1,c2,c3,c4]
   ·have d3:decide (-5≤mn∧mn≤5)=false:=decide_eq_false c3
    simp -implicitDefEqProofs (maxSteps:=9^9) (disch:=omega) only[go_sem,simprocAttr,d1,d2,d3]
    simp[headE,c1,c2,c3]
  ·have d2:decide (0≤skill∧skill≤9)=false:=decide_eq_false c2
   simp -implicitDefEqProofs (maxSteps:=9^9) (disch:=omega) only[go_sem,simprocAttr,d1,d2]
   simp[headE,c1,c2]
 ·have d1:decide (1≤hands∧hands≤4)=false:=decide_eq_false c1
  simp -implicitDefEqProofs (maxSteps:=9^9) (disch:=omega) only[go_sem,simprocAttr,d1]
  simp[headE,c1]
def PotAt(σ:List AObj)(r:Nat):Prop:=∃s,hget σ r=some (.cells [.int .u64 s])
def pw(σ:List AObj)(r:Nat)(s:Int):List AObj:=hset σ r (.cells [.int .u64 s])
theorem pw_pw{σ:List AObj}{r:Nat}{s t:Int}:pw (pw σ r s) r t=pw σ r t:=hset_hset
theorem PotAt.pw{σ:List AObj}{r:Nat}(h:PotAt σ r)(s:Int):PotAt (pw σ r s) r:=by obtain⟨u,h⟩:=h;exact⟨s,hget_set h _⟩
theorem pw_self{σ:List AObj}{r:Nat}(h:PotAt σ r):∃s,pw σ r s=σ:=by obtain⟨s,h⟩:=h;exact⟨s,hset_same h⟩
theorem step_c(r:Nat)(σ:List AObj)(hp:PotAt σ r)(Q:AV→List AObj→Prop)(h:∀s' x,0≤x→x<18446744073709551616→Q (.int .u64 x) (pw σ r s')):ACalls S 102 [.ptr r 0] σ Q:=by
 obtain⟨s,hg⟩:=hp
 refine AcE (Tryz.envOK (S:=S) 31 (fun _=>([],[])) fs0 fs0_ok) Tryz.kp102 Tryz.func102 rfl ?_
 have hg2:=fun o=>hget_set hg o
 simp -implicitDefEqProofs (maxSteps:=9^9) (disch:=omega) only[go_sem,simprocAttr,hg,hg2]
 exact h _ _ (by rw[IntKind.wrap_u64];omega) (by rw[IntKind.wrap_u64];omega)
theorem upto_c(r:Nat)(most:Int)(hm:most<9223372036854775807)(σ:List AObj)(hp:PotAt σ r)(Q:AV→List AObj→Prop)(h:∀s' x,0≤x→x≤max 0 most→Q (.int .i64 x) (pw σ r s')):ACalls S 38 [.ptr r 0,.int .i64 most] σ Q:=by
 refine AcE (Tryz.envOK (S:=S) 15 (fun _=>([],[])) fs0 fs0_ok) Tryz.kp38 Tryz.func38 rfl ?_
 by_cases h1:most<1
 ·simp -implicitDefEqProofs (maxSteps:=9^9) (disch:=omega) only[go_sem,simprocAttr]
  obtain⟨s,hs⟩:=pw_self hp
  have:=h s 0 (by omega) (by omega)
  rwa [hs] at this
 ·have e2:IntKind.u64.wrap (most+1)=most+1:=by rw[IntKind.wrap_u64];omega
  simp -implicitDefEqProofs (maxSteps:=9^9) (disch:=omega) only[go_sem,simprocAttr,e2]
  refine step_c r σ hp _ fun s' x h2 h3=>?_
  have hy:0≤x.fdiv (2^min 11 64):=Int.fdiv_nonneg h2 (by decide)
  simp -implicitDefEqProofs (maxSteps:=9^9) (disch:=omega) only[go_sem,simprocAttr,e2]
  generalize x.fdiv (2^min 11 64)=y at hy⊢
  have h4:=Int.tmod_nonneg (most+1) hy
  have h5:=Int.tmod_lt_of_pos y (b:=most+1) (by omega)
  have e4:IntKind.i64.wrap (y.tmod (most+1))=y.tmod (most+1):=by rw[IntKind.wrap_i64];omega
  try rw[e4]
  exact h _ _ h4 (by omega)
theorem within_c(r:Nat)(lo hi:Int)(h1: -1000000000000≤lo∧lo≤1000000000000)(h2: -1000000000000≤hi∧hi≤1000000000000)(σ:List AObj)(hp:PotAt σ r)(Q:AV→List AObj→Prop)(h:∀s' x,lo≤x→x≤max lo hi→Q (.int .i64 x) (pw σ r s')):ACalls S 61 [.ptr r 0,.int .i64 lo,.int .i64 hi] σ Q:=by
 refine AcE (Tryz.envOK (S:=S) 14 (fun _=>([],[])) fs0 fs0_ok) Tryz.kp61 Tryz.func61 rfl ?_
 simp -implicitDefEqProofs (maxSteps:=9^9) (disch:=omega) only[go_sem,simprocAttr]
 refine upto_c r _ (by omega) σ hp _ fun s' x h3 h4=>?_
 simp -implicitDefEqProofs (maxSteps:=9^9) (disch:=omega) only[go_sem,simprocAttr]
 exact h _ _ (by omega) (by omega)
theorem odds_c(r:Nat)(n m:Int)(h1: -1000000000000≤n∧n≤1000000000000)(h2: -1000000000000≤m∧m≤1000000000000)(σ:List AObj)(hp:PotAt σ r)(Q:AV→List AObj→Prop)(h:∀s' b,Q (.bool b) (pw σ r s')):ACalls S 21 [.ptr r 0,.int .i64 n,.int .i64 m] σ Q:=by
 refine AcE (Tryz.envOK (S:=S) 13 (fun _=>([],[])) fs0 fs0_ok) Tryz.kp21 Tryz.func21 rfl ?_
 simp -implicitDefEqProofs (maxSteps:=9^9) (disch:=omega) only[go_sem,simprocAttr]
 refine upto_c r _ (by omega) σ hp _ fun s' x h3 h4=>?_
 simp -implicitDefEqProofs (maxSteps:=9^9) (disch:=omega) only[go_sem,simprocAttr]
 exact⟨fun _=>h _ _,fun _=>h _ _⟩
theorem of_c(r:Nat)(l:List Int)(tk:Tok)(hl:1≤l.length∧l.length≤1000)(σ:List AObj)(hp:PotAt σ r)(Q:AV→List AObj→Prop)(h:∀s' x,x∈l→Q (.int .i64 x) (pw σ r s')):ACalls S 39 [.ptr r 0,.list tk 1 (l.map (.int .i64))] σ Q:=by
 refine AcE (Tryz.envOK (S:=S) 16 (fun _=>([],[])) fs0 fs0_ok) Tryz.kp39 Tryz.func39 rfl ?_
 simp -implicitDefEqProofs (maxSteps:=9^9) (disch:=omega) only[go_sem,simprocAttr]
 refine upto_c r _ (by omega) σ hp _ fun s' x h3 h4=>?_
 simp -implicitDefEqProofs (maxSteps:=9^9) (disch:=omega) only[go_sem,simprocAttr,idx_tg]
 refine h _ _ ?_
 have hx:x.toNat<l.length:=by omega
 have:tg l x=l[x.toNat]:=by simp[tg,List.getD,List.getElem?_eq_getElem hx]
 rw[this];exact List.getElem_mem hx
end Go.Proofs
