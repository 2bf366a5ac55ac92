/- Texts of a proof: lemmas. -/
import Derived.Test.YtgbdndlmdklefaaGreatEK28
import Derived.Test.YtgbdndlmdklefaaGreatEK22
set_option linter.unusedSimpArgs false
set_option linter.unusedVariables false
set_option maxRecDepth 100000
set_option maxHeartbeats 40000000
namespace Go.Proofs
open Go Go.Mu
variable {S:MC Tryz.prog}
structure Work(r:Ros)(ds:List (List Int)):Prop extends r.Head where
 dev:∀l∈ds,(∀y∈l, -2000000≤y∧y≤2000000)∧l.length≤1000000
 len:ds.length=r.ents.length
 day:∀t∈r.ents,0≤t.day∧t.day≤60
theorem Ros.Good.work{r:Ros}(h:r.Good):Work r (entsL r):=⟨h.toHead,h.devs,entsL_len r,fun t ht=>(h.ent t ht).1⟩
theorem range_all{f:Nat→Bool}{i:Nat}:(List.range (i+1)).all f=((List.range i).all f&&f i):=by rw[List.range_succ,List.all_append];simp
theorem range_any{f:Nat→Bool}{i:Nat}:(List.range (i+1)).any f=((List.range i).any f||f i):=by rw[List.range_succ,List.any_append];simp
theorem is_p(r:Ros)(ds:List (List Int))(hr:Work r ds)(x:List Int)(hx:OkX r x):PureV S 151 [r.wav ds,rtv x] (.bool (isB r ds x)):=by
 refine PvE (Tryz.envOK (S:=S) 27 (fun _=>([],[])) fs403 fs403_ok) (.bool) Tryz.kp151 Tryz.func151 rfl ?_
 intro σ
 have hav:r.wav ds= .agg (r.wcells ds):=rfl
 have hh:=hr.hands
 have hel:=hr.entl
 have hH:(r.hands.toNat:Int)=r.hands:=by omega
 have hx4:(4≤x.length)=True:=by rw[hx.len];simp
 have htk:List.take 4 (x.map (AV.int .i64))=x.map (AV.int .i64):=List.take_of_length_le (by rw[List.length_map,hx.len];omega)
 simp only[hav,rtv]
 simp -implicitDefEqProofs (maxSteps:=9^9) (disch:=omega) only[go_sem,simprocAttr,Ros.wcells,hx4,htk]
 refine ARun.forS (Tryz.envOK (S:=S) 27 (fun _=>([],[])) fs403 fs403_ok) r.ents.length (fun i=>((List.range i).all fun i=>(List.range r.hands.toNat).any fun h=>byB r ds x i h)=true) (fun i=>[(11,.int .i64 i)]) (fun _ j=>σ++(.cells (r.wcells ds):: .cells (x.map (.int .i64))::j)) [] (by kernel_rfl) (by simp[Ros.wcells]) (by simp[upd,ins,subF,lookA]) (by simp) ?_ ?_
 ·intro i j hi hp ih
  rw[range_all,hp,Bool.true_and] at ih
  simp -implicitDefEqProofs (maxSteps:=9^9) (disch:=omega) only[go_sem,simprocAttr,Ros.wcells,hx4,htk]
  refine ARun.forS (Tryz.envOK (S:=S) 27 (fun _=>([],[])) fs403 fs403_ok) r.hands.toNat (fun h=>((List.range h).any fun h=>byB r ds x i h)=false) (fun h=>[(17,.int .i64 h)]) (fun _ _=>σ++(.cells (r.wcells ds):: .cells (x.map (.int .i64))::j)) [] (by kernel_rfl) (by simp[Ros.wcells]) (by simp[upd,ins,subF,lookA,hH]) (by simp) ?_ ?_
  ·intro h j2 hh2 hp2 ih2
   have hh4:(h:Int)<4:=by omega
   simp -implicitDefEqProofs (maxSteps:=9^9) (disch:=omega) only[go_sem,simprocAttr,Ros.wcells,hx4,htk]
   refine by_p r hr.toHead ds hr.dev hr.len hr.day x hx i hi h ⟨by omega,hh4⟩ _ _ ?_
   cases hb:byB r ds x i h
   ·simp -implicitDefEqProofs (maxSteps:=9^9) (disch:=omega) only[go_sem,simprocAttr,Ros.wcells,hx4,htk]
    refine(ih2 (by rw[range_any,hp2,hb];rfl) []).castS rfl (by simp[upd,ins,subF,lookA])
   ·simp -implicitDefEqProofs (maxSteps:=9^9) (disch:=omega) only[go_sem,simprocAttr,Ros.wcells,hx4,htk]
    have:((List.range r.hands.toNat).any fun h=>byB r ds x i h)=true:=List.any_eq_true.2 ⟨h,List.mem_range.2 hh2,hb⟩
    refine(ih this j).castS rfl (by simp[upd,ins,subF,lookA])
  ·intro j2 hp2
   simp -implicitDefEqProofs (maxSteps:=9^9) (disch:=omega) only[go_sem,simprocAttr,Ros.wcells,hx4,htk]
   have:isB r ds x=false:=by
    unfold isB
    rw[List.all_eq_false]
    exact⟨i,List.mem_range.2 hi,by rw[hp2];simp⟩
   rw[this]
 ·intro j hp
  simp -implicitDefEqProofs (maxSteps:=9^9) (disch:=omega) only[go_sem,simprocAttr,Ros.wcells,hx4,htk]
  have:isB r ds x=true:=hp
  rw[this]
structure RaO(r:Ros)(ds:List (List Int))(s:Nat)(M:Nat→Prop)(q rr ry rs rn:Nat)(τ:List AObj):Prop where
 r1:hget τ rr=some (.cells (r.wcells ds))
 y1:hget τ ry=some (.cells [.yield q])
 s1:hget τ rs=some (.cells [.int .u64 s])
 n1:hget τ rn=some (.cells [.fn (.func 200) [] [.ptr rr 0,.ptr ry 0,.ptr rs 0,.ptr rn 0]])
 m:¬M rr∧¬M ry∧¬M rs∧¬M rn
theorem RaO.same{r:Ros}{ds:List (List Int)}{s:Nat}{M:Nat→Prop}{q rr ry rs rn:Nat}{τ τ':List AObj}(h:RaO r ds s M q rr ry rs rn τ)(hs:Same M τ τ'):RaO r ds s M q rr ry rs rn τ':=
 ⟨hs.get h.r1 h.m.1,hs.get h.y1 h.m.2.1,hs.get h.s1 h.m.2.2.1,hs.get h.n1 h.m.2.2.2,h.m⟩
theorem rnext_c(r:Ros)(ds:List (List Int))(hr:r.Head)(s:Nat)(hs:s<16):∀(m:Nat) (x:List Int) (a:Nat),x.length=4→(a:Int)+m=r.hands→∀{q rr ry rs rn:Nat} {L:List AV} (T:Taker S q L) {τ:List AObj} (D Rest:List AV),RaO r ds s T.M q rr ry rs rn τ→T.C D τ→L=D++(allR r s m x a).map rtv++Rest→
  ACalls S 200 [rtv x,.int .i64 a,.ptr rr 0,.ptr ry 0,.ptr rs 0,.ptr rn 0] τ (GiveN T τ (D++(allR r s m x a).map rtv)):=by
 intro m
 have hmn:=hr.mn
 have hhd:=hr.hands
 induction m with
 | zero=>
  intro x a hx ha q rr ry rs rn L T τ D Rest hT hC hL
  refine AcE (Tryz.envOK (S:=S) 52 (fun _=>([],[])) fs403 fs403_ok) Tryz.kp200 Tryz.func200 rfl ?_
  have q1:∀l,hget (τ++l) rr=some (.cells (r.wcells ds)):=fun l=>by rw[hget_app (hget_lt hT.r1)];exact hT.r1
  have q3:∀l,hget (τ++l) ry=some (.cells [.yield q]):=fun l=>by rw[hget_app (hget_lt hT.y1)];exact hT.y1
  simp only[allR] at hL⊢
  have hx4:(4≤x.length)=True:=by rw[hx];simp
  have htk:List.take 4 (x.map (AV.int .i64))=x.map (AV.int .i64):=List.take_of_length_le (by rw[List.length_map,hx];omega)
  have ha':(a:Int)=r.hands:=by omega
  simp only[rtv]
  simp -implicitDefEqProofs (maxSteps:=9^9) (disch:=omega) only[go_sem,simprocAttr,q1,q3,Ros.wcells,ha',hx4,htk]
  refine(T.take (D:=D) (R:=Rest) (by rw[hL];simp[rtv]) (T.keep hC (SameOn.app fun q hq=>T.lt hC hq))).mono fun v τ' hv=>?_
  rcases hv with⟨h1,⟨rfl,h2⟩ | ⟨rfl,h2⟩⟩
  ·simp -implicitDefEqProofs (maxSteps:=9^9) (disch:=omega) only[go_sem,simprocAttr]
   exact⟨Same.app.trans h1,.inl ⟨rfl,h2⟩⟩
  ·simp -implicitDefEqProofs (maxSteps:=9^9) (disch:=omega) only[go_sem,simprocAttr]
   exact⟨Same.app.trans h1,.inr ⟨rfl,D,rtv x,Rest,by rw[hL];simp,h2⟩⟩
 | succ m ih=>
  intro x a hx ha q rr ry rs rn L T τ D Rest hT hC hL
  have hane:((a:Int)=r.hands)=False:=by simp;omega
  have ha4:(a:Int)<4:=by omega
  refine AcE (Tryz.envOK (S:=S) 52 (fun _=>([],[])) fs403 fs403_ok) Tryz.kp200 Tryz.func200 rfl ?_
  have q1:∀l,hget (τ++l) rr=some (.cells (r.wcells ds)):=fun l=>by rw[hget_app (hget_lt hT.r1)];exact hT.r1
  have q2:∀l,hget (τ++l) rs=some (.cells [.int .u64 s]):=fun l=>by rw[hget_app (hget_lt hT.s1)];exact hT.s1
  have q4:∀l,hget (τ++l) rn=some (.cells [.fn (.func 200) [] [.ptr rr 0,.ptr ry 0,.ptr rs 0,.ptr rn 0]]):=fun l=>by rw[hget_app (hget_lt hT.n1)];exact hT.n1
  have hwa:IntKind.i64.wrap ((a:Int)+1)=((a+1:Nat):Int):=by rw[wrap64 (by omega) (by omega)];rfl
  have hx4:∀z:List Int,z.length=4→(4≤z.length)=True:=fun z hz=>by rw[hz];simp
  have htk:∀z:List Int,z.length=4→List.take 4 (z.map (AV.int .i64))=z.map (AV.int .i64):=fun z hz=>List.take_of_length_le (by rw[List.length_map,hz];omega)
  have hx4x:=hx4 x hx
  have htkx:=htk x hx
  simp only[rtv]
  cases hb:s.testBit a with
  | false=>
   have hall:allR r s (m+1) x a=allR r s m x (a+1):=by simp[allR,hb]
   rw[hall] at hL⊢
   simp -implicitDefEqProofs (maxSteps:=9^9) (disch:=omega) only[go_sem,simprocAttr,q1,q2,q4,Ros.wcells,hane,hb,hwa,hx4x,htkx]
   refine(ih x (a+1) hx (by omega) T D Rest (hT.same Same.app) (T.keep hC (SameOn.app fun q hq=>T.lt hC hq)) hL).mono fun v τ' hv=>?_
   rcases hv with⟨h1,⟨rfl,h2⟩ | ⟨rfl,h2⟩⟩
   ·simp -implicitDefEqProofs (maxSteps:=9^9) (disch:=omega) only[go_sem,simprocAttr]
    exact⟨Same.app.trans h1,.inl ⟨rfl,h2⟩⟩
   ·simp -implicitDefEqProofs (maxSteps:=9^9) (disch:=omega) only[go_sem,simprocAttr]
    exact⟨Same.app.trans h1,.inr ⟨rfl,h2⟩⟩
  | true=>
   have hall:allR r s (m+1) x a=(List.range (r.mx-r.mn+1).toNat).flatMap fun(k:Nat)=>if r.mn+k=0 then[] else allR r s m (setI x a (r.mn+k)) (a+1):=by simp[allR,hb]
   rw[hall] at hL⊢
   simp -implicitDefEqProofs (maxSteps:=9^9) (disch:=omega) only[go_sem,simprocAttr,q1,q2,q4,Ros.wcells,hane,hb,hx4x,htkx]
   refine ARun.forJ (Tryz.envOK (S:=S) 52 (fun _=>([],[])) fs403 fs403_ok) (r.mx-r.mn+1).toNat (fun i σ'=>∃xi:List Int,xi.length=4∧(∀z,setI xi a z=setI x a z)∧hget σ' τ.length=some (.cells (xi.map (AV.int .i64)))∧Same (fun q=>T.M q∨q=τ.length) (τ++[.cells (x.map (AV.int .i64))]) σ'∧T.C (D++((List.range i).flatMap fun(k:Nat)=>if r.mn+k=0 then[] else allR r s m (setI x a (r.mn+k)) (a+1)).map rtv) σ') (fun i=>[(9,.int .i64 (r.mn+i))]) (by kernel_rfl) (by simp[upd,ins,subF,lookA]) ?_ ?_ ?_
   ·exact⟨x,hx,fun _=>rfl,hget_at0,Same.refl,by simpa using T.keep hC (SameOn.app fun q hq=>T.lt hC hq)⟩
   ·rintro i σ' hi ⟨xi,h1,h3,h4,h5,h6⟩ ih'
    have hs1:Same (fun q=>T.M q∨q=τ.length) τ σ':=Same.app.trans h5
    have ho:∀{q o},hget τ q=some o→¬T.M q→hget σ' q=some o:=fun h hm=>hs1.get h (fun h'=>by rcases h' with h' | h';exact hm h';have:=hget_lt h;omega)
    have p1:=ho hT.r1 hT.m.1
    have p5:∀o,hget (hset σ' τ.length o) τ.length=some o:=fun o=>hget_set h4 o
    have p6:∀o,hget (hset σ' τ.length o) rn=some (.cells [.fn (.func 200) [] [.ptr rr 0,.ptr ry 0,.ptr rs 0,.ptr rn 0]]):=fun o=>by rw[hget_ne (by have:=hget_lt hT.n1;omega)];exact ho hT.n1 hT.m.2.2.2
    have hset3:=@putAt_set xi (a:Int) (r.mn+i) (by omega) (by omega)
    rw[h3,Int.toNat_natCast] at hset3
    have hl3:(setI x a (r.mn+i)).length=4:=by rw[setI_len];exact hx
    have hx4s:=hx4 _ hl3
    have htks:=htk _ hl3
    obtain⟨X,hX⟩:=flatMap_part (fun(k:Nat)=>if r.mn+k=0 then[] else allR r s m (setI x a (r.mn+k)) (a+1)) hi
    rw[flatMap_succ] at ih'
    generalize (List.range i).flatMap (fun(k:Nat)=>if r.mn+k=0 then[] else allR r s m (setI x a (r.mn+k)) (a+1))=D0 at h6 hX ih'
    have hle:r.mn+i≤r.mx:=by omega
    have hlen':τ.length<σ'.length:=hget_lt h4
    have hMt:¬T.M τ.length:=fun h=>by have:=T.lt hC h;omega
    have hs2:Same (fun q=>T.M q∨q=τ.length) τ (hset σ' τ.length (.cells ((setI x a (r.mn+i)).map (AV.int .i64)))):=hs1.trans ⟨by rw[length_hset];omega,fun q hq hm=>by rw[hget_ne (by omega)]⟩
    have ho2:∀{q o},hget τ q=some o→¬T.M q→hget (hset σ' τ.length (.cells ((setI x a (r.mn+i)).map (AV.int .i64)))) q=some o:=fun h hm=>hs2.get h (fun h'=>by rcases h' with h' | h';exact hm h';have:=hget_lt h;omega)
    have hk6:T.C (D++D0.map rtv) (hset σ' τ.length (.cells ((setI x a (r.mn+i)).map (AV.int .i64)))):=T.keep h6 ⟨by rw[length_hset];omega,fun q hq=>hget_ne (fun e=>hMt (e▸hq))⟩
    have hsame:Same (fun q=>T.M q∨q=τ.length) (τ++[.cells (x.map (AV.int .i64))]) (hset σ' τ.length (.cells ((setI x a (r.mn+i)).map (AV.int .i64)))):=h5.trans ⟨by rw[length_hset];omega,fun q hq hm=>by rw[hget_ne (by omega)]⟩
    by_cases hz:r.mn+i=0
    ·have hz':(r.mn+i=0)=True:=eq_true hz
     simp only[if_pos hz,List.append_nil] at ih'
     clear hX hL hs2 ho2
     simp -implicitDefEqProofs (maxSteps:=9^9) (disch:=omega) only[go_sem,simprocAttr,p1,Ros.wcells,h4,p5,p6,h1,h3,hz',hx4s,htks,hset3]
     refine(ih' _ ⟨setI x a (r.mn+i),hl3,fun z=>setI_setI,hget_set h4 _,hsame,hk6⟩).castS rfl (by simp[upd,ins,subF,lookA,Int.add_assoc])
    ·have hz':(r.mn+i=0)=False:=eq_false hz
     simp only[if_neg hz] at ih' hX
     simp -implicitDefEqProofs (maxSteps:=9^9) (disch:=omega) only[go_sem,simprocAttr,p1,Ros.wcells,h4,p5,p6,h1,h3,hz',hwa,hx4s,htks,hset3]
     refine(ih (setI x a (r.mn+i)) (a+1) hl3 (by omega) T (D++D0.map rtv) (X.map rtv++Rest) ⟨ho2 hT.r1 hT.m.1,ho2 hT.y1 hT.m.2.1,ho2 hT.s1 hT.m.2.2.1,ho2 hT.n1 hT.m.2.2.2,hT.m⟩ hk6 (by rw[hL,hX];simp)).mono fun v τ' hv=>?_
     have hsf:Same (fun q=>T.M q∨q=τ.length) (hset σ' τ.length (.cells ((setI x a (r.mn+i)).map (AV.int .i64)))) τ':=⟨hv.1.1,fun q hq hm=>hv.1.2 q hq (fun h=>hm (.inl h))⟩
     rcases hv with⟨g1,⟨rfl,g2⟩ | ⟨rfl,g2⟩⟩
     ·simp -implicitDefEqProofs (maxSteps:=9^9) (disch:=omega) only[go_sem,simprocAttr]
      refine(ih' τ' ⟨setI x a (r.mn+i),hl3,fun z=>setI_setI,?_,hsame.trans hsf,by simpa using g2⟩).castS rfl (by simp[upd,ins,subF,lookA,Int.add_assoc])
      rw[g1.2 _ (by rw[length_hset];exact hlen') hMt];exact hget_set h4 _
     ·simp -implicitDefEqProofs (maxSteps:=9^9) (disch:=omega) only[go_sem,simprocAttr]
      refine⟨⟨by have:=g1.1;rw[length_hset] at this;have:=hs1.1;omega,fun q hq hm=>?_⟩,.inr ⟨rfl,g2⟩⟩
      rw[g1.2 q (by rw[length_hset];have:=hs1.1;omega) hm,hs2.2 q hq (fun h=>by rcases h with h | h;exact hm h;omega)]
   ·rintro σ' ⟨xi,h1,h3,h4,h5,h6⟩
    have hs1:Same (fun q=>T.M q∨q=τ.length) τ σ':=Same.app.trans h5
    have ho:∀{q o},hget τ q=some o→¬T.M q→hget σ' q=some o:=fun h hm=>hs1.get h (fun h'=>by rcases h' with h' | h';exact hm h';have:=hget_lt h;omega)
    have p1:=ho hT.r1 hT.m.1
    simp -implicitDefEqProofs (maxSteps:=9^9) (disch:=omega) only[go_sem,simprocAttr,p1,Ros.wcells]
    exact⟨⟨hs1.1,fun q hq hm=>hs1.2 q hq (fun h=>by rcases h with h | h;exact hm h;omega)⟩,.inl ⟨rfl,h6⟩⟩
end Go.Proofs
