/- Texts of a proof: lemmas. -/
import Derived.Test.YtgbdndlmdklefaaGreatFK21
set_option linter.unusedSimpArgs false
set_option linter.unusedVariables false
set_option maxRecDepth 100000
set_option maxHeartbeats 40000000
namespace Go.Proofs
open Go Go.Mu
variable {S:MC Tryz.prog}
theorem firstE_all{α:Type}{f:α→Int}:∀{l:List α},firstE f l=0→∀x∈l,f x=0
 | [],_,x,h=>by simp at h
 | y::l,e,x,h=>by
  simp only[firstE] at e
  split at e
  ·rename_i hy
   rcases List.mem_cons.1 h with rfl | h
   ·exact hy
   ·exact firstE_all e x h
  ·rename_i hy;exact absurd e hy
theorem okR_of_ck{r:Rd}{m:Nat}(hm:m≤3)(h:ckR r m=0):okR r:=by
 simp only[ckR] at h
 unfold okR
 grind (splits:=40)
theorem okE_of_ck{e:Ear}(h:ck e=0):OkE e:=by
 have h0:=h
 simp only[ck] at h
 have hl:e.tones.length≤3:=by grind
 refine⟨hl,fun x hx=>?_,fun r hr=>okR_of_ck hl (firstE_all (f:=fun r=>ckR r e.tones.length) (by grind) r hr),by grind,by grind⟩
 have:=firstE_all (f:=ckT) (l:=e.tones) (by grind) x hx
 simp only[ckT] at this
 grind
theorem flatMap_len{α:Type}{f:Nat→List α}{b:Nat}:∀n,(∀k,k<n→(f k).length≤b)→((List.range n).flatMap f).length≤n*b
 | 0,_=>by simp
 | n+1,h=>by
  rw[flatMap_succ,List.length_append,Nat.succ_mul]
  exact Nat.add_le_add (flatMap_len n fun k hk=>h k (by omega)) (h n (by omega))
theorem allT_len(e:Ear)(he:OkE e):∀(m:Nat) (t:List Int) (a:Nat),a+m=e.tones.length→(allT e m t a).length≤21^m
 | 0,t,a,h=>by simp only[allT];split<;> simp
 | m+1,t,a,h=>by
  simp only[allT]
  have hal:a<e.tones.length:=by omega
  have hx:=he.tone _ (List.getElem_mem hal)
  have hgd:e.tones.getD a default=e.tones[a]:=by simp[List.getD,List.getElem?_eq_getElem hal]
  rw[hgd]
  refine Nat.le_trans (flatMap_len _ fun k hk=>allT_len e he m _ (a+1) (by omega)) ?_
  rw[Nat.pow_succ,Nat.mul_comm]
  exact Nat.mul_le_mul_left _ (by omega)
theorem truthsL_len{e:Ear}(he:OkE e):(truthsL e).length≤9261:=
 Nat.le_trans (allT_len e he _ _ _ (by omega)) (Nat.le_trans (Nat.pow_le_pow_right (by omega) he.len) (by decide))
def knownL(e:Ear):List (List Int)×Int:=if ck e≠0 then([],ck e) else if truthsL e=[] then([],9) else(truthsL e,0)
def askL(e:Ear)(w:Int):List (List Int)×Int:=if ck e≠0 then([],ck e) else if w≠0 then([],w) else knownL e
theorem knownL_p{p:List (List Int)×Int}:Plain (.tup [tavs p.1,.int .i64 p.2]):= .tup (by simp;exact⟨tavs_plain _,.int⟩)
theorem known_p(e:Ear)(h1:e.tones.length≤4294967296)(h2:e.rds.length≤4294967296):PureV S 123 [e.av] (.tup [tavs (knownL e).1,.int .i64 (knownL e).2]):=by
 refine PvE (Tryz.envOK (S:=S) 18 (fun _=>([],[])) fs5 fs5_ok) (knownL_p) Tryz.kp123 Tryz.func123 rfl ?_
 intro σ
 have hw:=check_p (S:=S) e h1 h2
 simp only[Ear.av]
 by_cases hc:ck e=0
 ·have he:=okE_of_ck hc
  simp -implicitDefEqProofs (maxSteps:=9^9) (disch:=omega) only[go_sem,simprocAttr,hc]
  refine truths_c e he _ _ fun re rl junk hI=>?_
  simp only[List.append_assoc,List.cons_append,List.nil_append] at hI
  simp -implicitDefEqProofs (maxSteps:=9^9) (disch:=omega) only[go_sem,simprocAttr,hc]
  refine collect_c hI (by rw[List.length_map];have:=truthsL_len he;omega) (tavs_agg he) (tavs_plain _) ?_
  have hl:=truthsL_len he
  by_cases hn:truthsL e=[]
  ·simp -implicitDefEqProofs (maxSteps:=9^9) (disch:=omega) only[go_sem,simprocAttr,hc,hn]
   simp[knownL,hc,hn,tavs,wk1_list]
  ·have hz:¬(truthsL e).length=0:=fun h=>hn (List.length_eq_zero_iff.1 h)
   simp -implicitDefEqProofs (maxSteps:=9^9) (disch:=omega) only[go_sem,simprocAttr,hc,hn]
   simp[knownL,hc,hn,tavs,wk1_list]
 ·simp -implicitDefEqProofs (maxSteps:=9^9) (disch:=omega) only[go_sem,simprocAttr,hc]
  simp[knownL,hc,tavs,wk1_list]
def known_s:=spec1 tEar fun e=>if e.tones.length≤4294967296∧e.rds.length≤4294967296 then some (.tup [tavs (knownL e).1,.int .i64 (knownL e).2]) else none
theorem known_ok:∀xs v,known_s xs=some v→PureV S 123 xs v:=
 spec1_ok fun e v h=>by have h:=someIf h;rw[← h.2];exact known_p e h.1.1 h.1.2
def fs7(f:FuncId)(xs:List AV):Option AV:=if f=123 then known_s xs else fs5 f xs
theorem fs7_ok{S:MC Tryz.prog}:∀f xs v,fs7 f xs=some v→PureV S f xs v:=by
 intro f xs v h
 unfold fs7 at h
 split at h
 ·rename_i e;subst e;exact known_ok _ _ h
 exact fs5_ok _ _ _ h
attribute [go_sem] fs7 known_s
theorem ask_p(e:Ear)(w:Int)(h1:e.tones.length≤4294967296)(h2:e.rds.length≤4294967296):PureV S 160 [e.av,.int .i64 w] (.tup [tavs (askL e w).1,.int .i64 (askL e w).2]):=by
 refine PvE (Tryz.envOK (S:=S) 19 (fun _=>([],[])) fs7 fs7_ok) (knownL_p) Tryz.kp160 Tryz.func160 rfl ?_
 intro σ
 simp only[Ear.av]
 simp -implicitDefEqProofs (maxSteps:=9^9) (disch:=omega) only[go_sem,simprocAttr,tavs]
 refine⟨fun q1=>?_,fun q1=>⟨fun q2=>?_,fun q2=>?_⟩⟩<;> simp[askL, *]
def ask_s:=spec2 tEar tI fun e w=>if e.tones.length≤4294967296∧e.rds.length≤4294967296 then some (.tup [tavs (askL e w).1,.int .i64 (askL e w).2]) else none
theorem ask_ok:∀xs v,ask_s xs=some v→PureV S 160 xs v:=
 spec2_ok fun e w v h=>by have h:=someIf h;rw[← h.2];exact ask_p e w h.1.1 h.1.2
def fs8(f:FuncId)(xs:List AV):Option AV:=if f=160 then ask_s xs else fs7 f xs
theorem fs8_ok{S:MC Tryz.prog}:∀f xs v,fs8 f xs=some v→PureV S f xs v:=by
 intro f xs v h
 unfold fs8 at h
 split at h
 ·rename_i e;subst e;exact ask_ok _ _ h
 exact fs7_ok _ _ _ h
attribute [go_sem] fs8 ask_s
def ClV{P:Program}(S:MC P)(g:FuncId)(p q:List AV)(σ:List AObj)(xs:List AV)(v:AV):Prop:=
 ∀σ',σ.length≤σ'.length→(∀k,k<σ.length→hget σ' k=hget σ k)→∀Q:AV→List AObj→Prop,Q v σ'→ACalls S g (p++xs++q) σ' Q
theorem ClV.app{P:Program}{S:MC P}{g:FuncId}{p q:List AV}{σ l:List AObj}{xs:List AV}{v:AV}(h:ClV S g p q σ xs v){Q:AV→List AObj→Prop}(hq:Q v (σ++l)):ACalls S g (p++xs++q) (σ++l) Q:=
 h _ (by simp) (fun k hk=>hget_app hk) Q hq
theorem ClV.app1{P:Program}{S:MC P}{g:FuncId}{p q:List AV}{σ l:List AObj}{x:AV}{v:AV}(h:ClV S g p q σ [x] v){Q:AV→List AObj→Prop}(hq:Q v (σ++l)):ACalls S g (p++x::q) (σ++l) Q:=by
 have:=h.app (l:=l) hq
 simpa using this
def mn(a b:Int):Int:=if b<a then b else a
def mx(a b:Int):Int:=if a<b then b else a
def spanS(num:List Int→Int)(x:Rng)(t:List Int):Rng:=⟨mn x.lo (num t),mx x.hi (num t)⟩
def spanL(num:List Int→Int)(l:List (List Int)):Rng:=l.foldl (spanS num) ⟨num (l.headD []),num (l.headD [])⟩
theorem span_c{g:FuncId}{p q:List AV}{σ:List AObj}(num:List Int→Int)(l:List (List Int))(hl:l≠[])(hl2:l.length≤4294967296)(h3:∀t∈l,t.length=3)(hn:∀t∈l,ClV S g p q σ [tav t] (.int .i64 (num t)))(Q:AV→List AObj→Prop)(h:Q (spanL num l).av σ) :
  ACalls S 124 [tavs l,.fn (.func g) p q] σ Q:=by
 refine ACalls.clean_ev (E:=Tryz.E (S:=S) 40 Tryz.ord124 fs0) (Tryz.envOK (S:=S) 40 Tryz.ord124 fs0 fs0_ok) (Rng.plain _ _) (h) Tryz.kp124 Tryz.func124 rfl (by kernel_rfl) (by simp[Tryz.E]) (Callable.of Tryz.func124 (by kernel_rfl) (by kernel_rfl)) (by kernel_rfl) ?_
 simp only[tavs]
 have h0:0<l.length:=List.length_pos_iff.2 hl
 have hidx:∀f:List Int→AV,idx (l.map f) 0=some (f l[0]):=fun f=>idx_map (i:=0) h0
 have hc3:∀t∈l,∃cs,tav t= .agg cs∧cs.length=3:=fun t ht=>⟨_,rfl,by simpa using h3 t ht⟩
 have hm0:l[0]∈l:=List.getElem_mem h0
 have h30:=h3 _ hm0
 simp -implicitDefEqProofs (maxSteps:=9^9) (disch:=omega) only[go_sem,simprocAttr,hidx,tav]
 refine(hn _ hm0).app1 ?_
 simp -implicitDefEqProofs (maxSteps:=9^9) (disch:=omega) only[go_sem,simprocAttr,hidx,tav]
 refine(hn _ hm0).app1 ?_
 simp -implicitDefEqProofs (maxSteps:=9^9) (disch:=omega) only[go_sem,simprocAttr,hidx,tav]
 have hd:l.headD []=l[0]:=by cases l with | nil=>exact absurd rfl hl | cons a b=>rfl
 refine ARun.forS (Tryz.envOK (S:=S) 40 Tryz.ord124 fs0 fs0_ok) l.length (fun _=>True) (fun i=>[(21,.int .i64 i)]) (fun i j=>σ++(.cells [.int .i64 0,.int .i64 0]:: .cells [.int .i64 ((l.take i).foldl (spanS num) ⟨num l[0],num l[0]⟩).lo,.int .i64 ((l.take i).foldl (spanS num) ⟨num l[0],num l[0]⟩).hi]::j)) [] (by kernel_rfl) rfl (by simp[upd,ins,subF,lookA]) trivial ?_ ?_
 ·intro i j hi _ ih
  have hmi:l[i]∈l:=List.getElem_mem hi
  have h3i:=h3 _ hmi
  simp -implicitDefEqProofs (maxSteps:=9^9) (disch:=omega) only[go_sem,simprocAttr,tav]
  refine(hn _ hmi).app1 ?_
  simp -implicitDefEqProofs (maxSteps:=9^9) (disch:=omega) only[go_sem,simprocAttr,tav]
  refine(hn _ hmi).app1 ?_
  simp -implicitDefEqProofs (maxSteps:=9^9) (disch:=omega) only[go_sem,simprocAttr,tav]
  refine(ih trivial (j++[_])).castS (by rw[foldl_take _ _ _ _ hi];rfl) (by simp[upd,ins,subF,lookA,tav])
 ·intro j _
  simp -implicitDefEqProofs (maxSteps:=9^9) (disch:=omega) only[go_sem,simprocAttr,tav]
  have hsp:spanL num l=l.foldl (spanS num) ⟨num l[0],num l[0]⟩:=by rw[spanL,hd]
  rw[hsp]
  simp[Rng.av,wk,wk1,wkL,wk0]
theorem tones1_v{σ:List AObj}{r:Nat}{x:Int}(hg:hget σ r=some (.cells [.int .i64 x]))(hx:0≤x∧x≤2){t:List Int}(ht:t.length=3):ClV S 125 [] [.ptr r 0] σ [tav t] (.int .i64 (tg t x)):=by
 intro σ' hl hs Q hq
 have hg':∀l,hget (σ'++l) r=some (.cells [.int .i64 x]):=fun l=>by rw[hget_app (by have:=hget_lt hg;omega),hs _ (hget_lt hg)];exact hg
 simp only[List.nil_append,List.cons_append]
 refine ACalls.clean_ev (E:=Tryz.E (S:=S) 7 (fun _=>([],[])) fs0) (Tryz.envOK (S:=S) 7 (fun _=>([],[])) fs0 fs0_ok) (.int _ _) (hq) Tryz.kp125 Tryz.func125 rfl (by kernel_rfl) (by simp[Tryz.E]) (Callable.of Tryz.func125 (by kernel_rfl) (by kernel_rfl)) (by kernel_rfl) ?_
 simp only[tav]
 simp -implicitDefEqProofs (maxSteps:=9^9) (disch:=omega) only[go_sem,simprocAttr,hg']
theorem gate1_v{σ:List AObj}{r:Nat}{x:Int}(hg:hget σ r=some (.cells [.int .i64 x]))(hx:0≤x∧x≤2){t:List Int}(ht:t.length=3):ClV S 171 [] [.ptr r 0] σ [tav t] (.int .i64 (tg t x)):=by
 intro σ' hl hs Q hq
 have hg':∀l,hget (σ'++l) r=some (.cells [.int .i64 x]):=fun l=>by rw[hget_app (by have:=hget_lt hg;omega),hs _ (hget_lt hg)];exact hg
 simp only[List.nil_append,List.cons_append]
 refine ACalls.clean_ev (E:=Tryz.E (S:=S) 7 (fun _=>([],[])) fs0) (Tryz.envOK (S:=S) 7 (fun _=>([],[])) fs0 fs0_ok) (.int _ _) (hq) Tryz.kp171 Tryz.func171 rfl (by kernel_rfl) (by simp[Tryz.E]) (Callable.of Tryz.func171 (by kernel_rfl) (by kernel_rfl)) (by kernel_rfl) ?_
 simp only[tav]
 simp -implicitDefEqProofs (maxSteps:=9^9) (disch:=omega) only[go_sem,simprocAttr,hg']
theorem knownL_ok{e:Ear}(h:(knownL e).2=0):ck e=0∧truthsL e≠[]∧knownL e=(truthsL e,0):=by
 unfold knownL at h⊢
 split at h
 ·rename_i hc;exact absurd h hc
 ·rename_i hc
  split at h
  ·simp at h
  ·rename_i hn
   refine⟨by simpa using hc,hn,by rw[if_neg hc,if_neg hn]⟩
def tonesL(e:Ear):List Rng×Int:=if(knownL e).2=0 then((List.range e.tones.length).map fun(i:Nat)=>spanL (fun t=>tg t i) (truthsL e),0) else([],(knownL e).2)
theorem tonesL_p{p:List Rng×Int}:Plain (.tup [.list .no 2 (p.1.map Rng.av),.int .i64 p.2]):= .tup (by simp;exact⟨.map fun x _=>Rng.plain x,.int⟩)
theorem tones_p(e:Ear)(h1:e.tones.length≤4294967296)(h2:e.rds.length≤4294967296):PureV S 76 [e.av] (.tup [.list .no 2 ((tonesL e).1.map Rng.av),.int .i64 (tonesL e).2]):=by
 refine PvE (Tryz.envOK (S:=S) 30 (fun _=>([],[])) fs8 fs8_ok) (tonesL_p) Tryz.kp76 Tryz.func76 rfl ?_
 intro σ
 simp only[Ear.av]
 by_cases hk:(knownL e).2=0
 ·obtain⟨hc,hn,hke⟩:=knownL_ok hk
  have he:=okE_of_ck hc
  have hlen:=he.len
  have htl:=truthsL_len he
  simp -implicitDefEqProofs (maxSteps:=9^9) (disch:=omega) only[go_sem,simprocAttr,hke,tavs]
  refine ARun.ghost 6 2 (sz0:=0) rfl (by simp[lookA]) ?_
  simp only[ins,↓reduceIte,List.append_assoc,List.cons_append,List.nil_append,List.length_append,List.length_cons,List.length_nil,Nat.zero_add,Nat.reduceEqDiff]
  refine ARun.forS (Tryz.envOK (S:=S) 30 (fun _=>([],[])) fs8 fs8_ok) e.tones.length (fun _=>True) (fun i=>[(6,.list (.own (σ.length+1)) 2 (((List.range i).map fun(i:Nat)=>spanL (fun t=>tg t i) (truthsL e)).map Rng.av)),(19,.int .i64 i)]) (fun i j=>σ++(.cells e.cells:: .tail i 2::j)) [] (by kernel_rfl) (by simp[Ear.cells]) (by simp[upd,ins,subF,lookA]) trivial ?_ ?_
  ·intro i j hi _ ih
   simp -implicitDefEqProofs (maxSteps:=9^9) (disch:=omega) only[go_sem,simprocAttr,Ear.cells]
   refine span_c (fun t=>tg t i) (truthsL e) hn (by omega) (fun t ht=>(truthsL_ok he t ht).1) (fun t ht=>tones1_v (x:=i) ?_ (by omega) (truthsL_ok he t ht).1) _ ?_
   ·rw[hget_at];simp
   ·have hfl:∀x:Rng,x.av.flat=true:=fun _=>rfl
    have hcl:∀x:Rng,x.av.cells.length=2:=fun _=>rfl
    have hrl:(List.range i).length=i:=List.length_range
    simp -implicitDefEqProofs (maxSteps:=9^9) (disch:=omega) only[go_sem,simprocAttr,Ear.cells,hfl,hcl,hrl]
    refine(ih trivial (j++[_])).castS rfl (by simp[upd,ins,subF,lookA,List.range_succ])
  ·intro j _
   simp -implicitDefEqProofs (maxSteps:=9^9) (disch:=omega) only[go_sem,simprocAttr,Ear.cells]
   simp[tonesL,hk]
 ·have hk':¬(knownL ⟨e.slack,e.tones,e.rds⟩).2=0:=hk
  simp -implicitDefEqProofs (maxSteps:=9^9) (disch:=omega) only[go_sem,simprocAttr,hk']
  simp[tonesL,hk]
def tones_s:=spec1 tEar fun e=>if e.tones.length≤4294967296∧e.rds.length≤4294967296 then some (.tup [.list .no 2 ((tonesL e).1.map Rng.av),.int .i64 (tonesL e).2]) else none
theorem tones_ok:∀xs v,tones_s xs=some v→PureV S 76 xs v:=
 spec1_ok fun e v h=>by have h:=someIf h;rw[← h.2];exact tones_p e h.1.1 h.1.2
theorem askL_ok{e:Ear}{w:Int}(h:(askL e w).2=0):ck e=0∧w=0∧truthsL e≠[]∧askL e w=(truthsL e,0):=by
 unfold askL at h⊢
 split at h
 ·rename_i hc;exact absurd h hc
 ·rename_i hc
  split at h
  ·rename_i hw;exact absurd h hw
  ·rename_i hw
   obtain⟨h1,h2,h3⟩:=knownL_ok h
   exact⟨h1,by simpa using hw,h2,by rw[if_neg hc,if_neg hw,h3]⟩
def fs9(f:FuncId)(xs:List AV):Option AV:=if f=76 then tones_s xs else fs8 f xs
theorem fs9_ok{S:MC Tryz.prog}:∀f xs v,fs9 f xs=some v→PureV S f xs v:=by
 intro f xs v h
 unfold fs9 at h
 split at h
 ·rename_i e;subst e;exact tones_ok _ _ h
 exact fs8_ok _ _ _ h
attribute [go_sem] fs9 tones_s
end Go.Proofs
