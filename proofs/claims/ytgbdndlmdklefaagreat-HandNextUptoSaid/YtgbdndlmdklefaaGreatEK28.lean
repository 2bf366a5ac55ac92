/- Texts of a proof: lemmas. -/
import Derived.Test.YtgbdndlmdklefaaGreatEK27
import Derived.Test.YtgbdndlmdklefaaGreatEK23
import Derived.Test.YtgbdndlmdklefaaGreatEK18
import Derived.Laws.Bits64
import Derived.Laws.BitsLemmas
set_option linter.unusedSimpArgs false
set_option linter.unusedVariables false
set_option maxRecDepth 100000
set_option maxHeartbeats 40000000
namespace Go.Proofs
open Go Go.Mu
variable {S:MC Tryz.prog}
def padT(T:List Int):List Int:=T++List.replicate (3-T.length) 0
theorem tg_pad(T:List Int)(i:Int):tg (padT T) i=tg T i:=by
 unfold tg padT
 simp only[List.getD,List.getElem?_append,List.getElem?_replicate]
 split
 ·rfl
 ·rename_i h
  rw[List.getElem?_eq_none (by omega)]
  split<;> rfl
theorem isR_pad(r:Rd)(sl:Int)(T:List Int):isR r sl (padT T)=isR r sl T:=by simp only[isR,tg_pad]
def isv(t:List Int):AV:= .list .no 1 (t.map (AV.int .i64))
def tss(L:List (List Int)):AV:= .list .no 1 (L.map isv)
def decN:AV→Option (List Int)
 | .list .no 1 xs=>decs decI xs
 | _=>none
theorem decN_inv(a:AV)(x:List Int)(h:decN a=some x):a=isv x:=by
 unfold decN at h;split at h
 ·rw[decs_inv decI_inv h];rfl
 ·cases h
theorem decN_isv(x:List Int):decN (isv x)=some x:=decs_ints
def tIss:Ty (List (List Int)):=⟨decL 1 decN,tss,decL_inv' decN_inv⟩
theorem tIss_dec{a:AV}:tIss.dec a=decL 1 decN a:=rfl
theorem decL_iss{t:Tok}{l:List (List Int)}:decL 1 decN (.list t 1 (l.map isv))=some l:=decL_self decN_isv
theorem plain_ints(t:List Int):Plain (.list .no 1 (t.map (AV.int .i64))):=by
 intro n
 refine .list _ _ _ (fun id e=>by cases e) fun i j hi hj=>?_
 simp[AV.cells] at hj⊢
 exact .int _ _
theorem tss_plain(l:List (List Int)):Plain (tss l):=by
 intro n
 refine .list _ _ _ (fun id e=>by cases e) fun i j hi hj=>?_
 simp only[List.getElem_map,isv,AV.cells,List.length_singleton] at hj⊢
 have:j=0:=by omega
 subst this
 exact plain_ints _ n
attribute [go_sem] tIss_dec decL_iss
theorem padT_take'{t:List Int}:(padT t).take t.length=t:=by simp[padT]
theorem padT_set'{t:List Int}(h:t.length<3)(v:Int):setI (padT t) t.length v=padT (t++[v]):=by
 simp only[setI,padT,Int.toNat_natCast,List.length_append,List.length_singleton]
 rw[List.set_append_right _ _ (by omega),Nat.sub_self]
 have e:3-t.length=(3- (t.length+1))+1:=by omega
 rw[e,List.replicate_succ]
 simp
def rallL(e:Ear)(t:List Int):List (List Int):=(allT e (e.tones.length-t.length) (padT t) t.length).map (List.take e.tones.length)
def rfits_s:=spec2 tEar tIs fun e T=>if ck e=0∧T.length=e.tones.length∧small T then some (.bool (e.rds.all fun r=>isR r e.slack T)) else none
theorem rfits_ok:∀xs v,rfits_s xs=some v→PureV S 224 xs v:=
 spec2_ok fun e T v h=>by have h:=someIf h;rw[← h.2];exact rfits_p e T h.1.1 h.1.2.1 h.1.2.2
def fs107(f:FuncId)(xs:List AV):Option AV:=if f=224 then rfits_s xs else fs106 f xs
theorem fs107_ok{S:MC Tryz.prog}:∀f xs v,fs107 f xs=some v→PureV S f xs v:=by
 intro f xs v h
 unfold fs107 at h
 split at h
 ·rename_i e;subst e;exact rfits_ok _ _ h
 exact fs106_ok _ _ _ h
attribute [go_sem] fs107 rfits_s
theorem getD_tone{e:Ear}{a:Nat}(h:a<e.tones.length):e.tones.getD a default=e.tones[a]:=by simp[List.getD,List.getElem?_eq_getElem h]
theorem idxR{l:List Rng}{a:Nat}(h:a<l.length):idx (l.map Rng.av) (a:Int)=some l[a].av:=by rw[idx_nat h]
theorem rall_p(e:Ear)(hc:ck e=0):∀(d:Nat) (t:List Int),t.length+d=e.tones.length→small t→PureV S 197 [e.av,.list .no 1 (t.map (.int .i64))] (tss (rallL e t)):=by
 have he:=okE_of_ck hc
 have hlen:=he.len
 intro d
 induction d with
 | zero=>
  intro t hl hs
  refine PvE (Tryz.envOK (S:=S) 44 Tryz.ord197 fs107 fs107_ok) (tss_plain _) Tryz.kp197 Tryz.func197 rfl ?_
  intro σ
  have hL:rallL e t=if(e.rds.all fun r=>isR r e.slack t) then[t] else[]:=by
   unfold rallL
   have e0:e.tones.length-t.length=0:=by omega
   rw[e0]
   simp only[allT,isR_pad]
   split
   ·simp only[List.map_cons,List.map_nil];rw[show e.tones.length=t.length by omega,padT_take']
   ·rfl
  rw[hL]
  simp only[Ear.av]
  have hl':t.length=e.tones.length:=by omega
  have hc':ck ⟨e.slack,e.tones,e.rds⟩= 0:=hc
  cases hb:(e.rds.all fun r=>isR r e.slack t)
  ·simp -implicitDefEqProofs (maxSteps:=9^9) (disch:=omega) only[go_sem,simprocAttr,hc',hs,hb,hl',tss,List.map_nil]
  ·simp -implicitDefEqProofs (maxSteps:=9^9) (disch:=omega) only[go_sem,simprocAttr,hc',hs,hb,hl',tss,isv]
 | succ d ih=>
  intro t hl hs
  refine PvE (Tryz.envOK (S:=S) 44 Tryz.ord197 fs107 fs107_ok) (tss_plain _) Tryz.kp197 Tryz.func197 rfl ?_
  intro σ
  have hlt:t.length<e.tones.length:=by omega
  have hx:=he.tone _ (List.getElem_mem hlt)
  have hxi:=idxR hlt
  have hT:∀v,0≤v∧v≤1000000→small (t++[v]):=fun v hv x hx=>by
   rcases List.mem_append.1 hx with h | h
   ·exact hs x h
   ·simp at h;subst h;exact hv
  have hL:rallL e t=(List.range (e.tones[t.length].hi-e.tones[t.length].lo+1).toNat).flatMap fun(k:Nat)=>rallL e (t++[e.tones[t.length].lo+k]):=by
   unfold rallL
   rw[show e.tones.length-t.length=d+1 by omega]
   simp only[allT,getD_tone hlt,List.map_flatMap]
   congr 1;funext k
   rw[padT_set' (by omega),List.length_append,List.length_singleton,show e.tones.length- (t.length+1)=d by omega]
  rw[hL]
  have hle:∀v,(rallL e (t++[v])).length≤441:=fun v=>by
   unfold rallL
   rw[List.length_map]
   refine Nat.le_trans (allT_len e he _ _ _ (by simp;omega)) (Nat.le_trans (Nat.pow_le_pow_right (by omega) (show _≤2 by simp;omega)) (by decide))
  generalize e.tones[t.length]=x at hx hxi
  obtain⟨lo,hi⟩:=x
  simp only at hx
  simp only[Ear.av]
  simp -implicitDefEqProofs (maxSteps:=9^9) (disch:=omega) only[go_sem,simprocAttr,hxi,Rng.av]
  refine ARun.ghost 5 1 (sz0:=0) rfl (by simp[lookA]) ?_
  simp only[ins,↓reduceIte,List.append_assoc,List.cons_append,List.nil_append,List.length_append,List.length_cons,List.length_nil,Nat.zero_add,Nat.reduceEqDiff,Nat.reduceAdd]
  refine ARun.forS (Tryz.envOK (S:=S) 44 Tryz.ord197 fs107 fs107_ok) (hi-lo+1).toNat (fun _=>True) (fun i=>[(5,.list (.own (σ.length+2)) 1 (((List.range i).flatMap fun(k:Nat)=>rallL e (t++[lo+k])).map isv)),(7,.int .i64 (lo+i))]) (fun i j=>σ++(.cells e.cells:: .cells [.int .i64 lo,.int .i64 hi]:: .tail ((List.range i).flatMap fun(k:Nat)=>rallL e (t++[lo+k])).length 1::j)) [] (by kernel_rfl) (by simp[Ear.cells]) (by simp[upd,ins,subF,lookA]) trivial ?_ ?_
  ·intro i j hi' _ ih2
   have hbl:((List.range i).flatMap fun(k:Nat)=>rallL e (t++[lo+k])).length≤i*441:=flatMap_len _ fun k _=>hle _
   rw[flatMap_succ] at ih2
   have hle1:=hle (lo+i)
   have ih':=ih (t++[lo+i]) (by simp;omega) (hT _ (by omega))
   generalize ((List.range i).flatMap fun(k:Nat)=>rallL e (t++[lo+k]))=B at hbl ih2⊢
   generalize rallL e (t++[lo+i])=C at hle1 ih2 ih'
   simp -implicitDefEqProofs (maxSteps:=9^9) (disch:=omega) only[go_sem,simprocAttr,Ear.cells]
   refine PureV.weaken (l':=[e.av,.list .no 1 ((t++[lo+(i:Int)]).map (AV.int .i64))]) ?_ ih' _ _ ?_
   ·simp[wkL,wk,wk1,wk0,Ear.av]
   ·simp -implicitDefEqProofs (maxSteps:=9^9) (disch:=omega) only[go_sem,simprocAttr,tss]
    exact(ih2 trivial (j++[.tail (t.length+1) 1])).castS (by simp[Ear.cells]) (by simp[upd,ins,subF,lookA,Int.add_assoc])
  ·intro j _
   have hbl:((List.range (hi-lo+1).toNat).flatMap fun(k:Nat)=>rallL e (t++[lo+k])).length≤(hi-lo+1).toNat*441:=flatMap_len _ fun k _=>hle _
   generalize ((List.range (hi-lo+1).toNat).flatMap fun(k:Nat)=>rallL e (t++[lo+k]))=B at hbl⊢
   simp -implicitDefEqProofs (maxSteps:=9^9) (disch:=omega) only[go_sem,simprocAttr,Ear.cells,tss]
def truthsR(e:Ear):List (List Int):=(truthsL e).map (List.take e.tones.length)
theorem tg_take{t:List Int}{m:Nat}{i:Int}(h:i<m)(h0:0≤i):tg (t.take m) i=tg t i:=by
 simp only[tg,List.getD]
 rw[List.getElem?_take_of_lt (by omega)]
theorem truthsR_len{e:Ear}(he:OkE e):(truthsR e).length≤9261:=by unfold truthsR;rw[List.length_map];exact truthsL_len he
theorem truthsR_ok{e:Ear}(he:OkE e):∀t∈truthsR e,t.length=e.tones.length∧small t:=fun t ht=>by
 obtain⟨u,hu,rfl⟩:=List.mem_map.1 ht
 obtain⟨h1,h2⟩:=truthsL_ok he u hu
 have:=he.len
 exact⟨by rw[List.length_take];omega,fun x hx=>h2 x (List.mem_of_mem_take hx)⟩
theorem truthsR_nil{e:Ear}:truthsR e=[]↔truthsL e=[]:=by unfold truthsR;simp
theorem spanL_map(num:List Int→Int)(f:List Int→List Int){l:List (List Int)}(h:l≠[]):spanL num (l.map f)=spanL (fun t=>num (f t)) l:=by
 cases l with
 | nil=>exact absurd rfl h
 | cons a l=>simp only[spanL,List.map_cons,List.headD_cons,List.foldl_cons,List.foldl_map];rfl
theorem foldl_congr'{α β:Type}{f g:β→α→β}:∀{l:List α} {b:β},(∀b,∀x∈l,f b x=g b x)→l.foldl f b=l.foldl g b
 | [],_,_=>rfl
 | a::l,b,h=>by
  simp only[List.foldl_cons]
  rw[h b a (by simp)]
  exact foldl_congr' fun b x hx=>h b x (by simp[hx])
theorem spanL_congr{num num':List Int→Int}{l:List (List Int)}(h:l≠[])(hn:∀t∈l,num t=num' t):spanL num l=spanL num' l:=by
 cases l with
 | nil=>exact absurd rfl h
 | cons a l=>
  unfold spanL
  simp only[List.headD_cons]
  rw[hn a (by simp)]
  exact foldl_congr' fun b x hx=>by simp only[spanS];rw[hn x hx]
theorem spanR{e:Ear}(num num':List Int→Int)(h:truthsL e≠[])(hn:∀t,num (t.take e.tones.length)=num' t):spanL num (truthsR e)=spanL num' (truthsL e):=by
 unfold truthsR
 rw[spanL_map _ _ h]
 exact spanL_congr h fun t _=>hn t
def rall_s:=spec2 tEar tIs fun e t=>if ck e=0∧t.length≤e.tones.length∧small t then some (tss (rallL e t)) else none
theorem rall_ok:∀xs v,rall_s xs=some v→PureV S 197 xs v:=
 spec2_ok fun e t v h=>by have h:=someIf h;rw[← h.2];exact rall_p e h.1.1 (e.tones.length-t.length) t (by omega) h.1.2.2
def fs108(f:FuncId)(xs:List AV):Option AV:=if f=197 then rall_s xs else fs107 f xs
theorem fs108_ok{S:MC Tryz.prog}:∀f xs v,fs108 f xs=some v→PureV S f xs v:=by
 intro f xs v h
 unfold fs108 at h
 split at h
 ·rename_i e;subst e;exact rall_ok _ _ h
 exact fs107_ok _ _ _ h
attribute [go_sem] fs108 rall_s
theorem small0:small []:=fun x hx=>by cases hx
theorem idx_iss{L:List (List Int)}{i:Nat}(h:i<L.length):idx (L.map isv) (i:Int)=some (isv L[i]):=idx_map h
theorem ends_p(L:List (List Int))(x:Int)(hL:L≠[])(hl:L.length≤4294967296)(hx:0≤x)(hxl:∀t∈L,x<t.length):PureV S 198 [tss L,.int .i64 x] (spanL (fun t=>tg t x) L).av:=by
 refine PvE (Tryz.envOK (S:=S) 48 Tryz.ord198 fs0 fs0_ok) (Rng.plain _) Tryz.kp198 Tryz.func198 rfl ?_
 intro σ
 have h0:0<L.length:=List.length_pos_iff.2 hL
 have hidx:idx (L.map isv) 0=some (isv L[0]):=idx_map (i:=0) h0
 have hx0:idx (L[0].map (AV.int .i64)) x=some (.int .i64 (tg L[0] x)):=idx_tg hx (hxl _ (List.getElem_mem h0))
 have hd:L.headD []=L[0]:=by cases L with | nil=>exact absurd rfl hL | cons a b=>rfl
 have hsp:spanL (fun t=>tg t x) L=L.foldl (spanS fun t=>tg t x) ⟨tg L[0] x,tg L[0] x⟩:=by rw[spanL,hd]
 rw[hsp]
 generalize tg L[0] x=v0 at hx0⊢
 generalize L[0]=T0 at hidx hx0
 simp only[tss]
 simp -implicitDefEqProofs (maxSteps:=9^9) (disch:=omega) only[go_sem,simprocAttr,hidx,hx0,isv]
 have hf0:(L.take 0).foldl (spanS fun t=>tg t x) ⟨v0,v0⟩=⟨v0,v0⟩:=rfl
 have hfa:=foldl_all (spanS fun t=>tg t x) ⟨v0,v0⟩ L
 have hft:=foldl_take (spanS fun t=>tg t x) ⟨v0,v0⟩ L
 generalize hF:(fun i=>(L.take i).foldl (spanS fun t=>tg t x) ⟨v0,v0⟩)=F
 have hF':∀i,(L.take i).foldl (spanS fun t=>tg t x) ⟨v0,v0⟩= F i:=fun i=>by rw[← hF]
 simp only[hF'] at hf0 hfa hft
 refine ARun.forS (Tryz.envOK (S:=S) 48 Tryz.ord198 fs0 fs0_ok) L.length (fun _=>True) (fun i=>[(6,.int .i64 i)]) (fun i j=>σ++(.cells [.int .i64 0,.int .i64 0]:: .cells [.int .i64 (F i).lo,.int .i64 (F i).hi]::j)) [] (by kernel_rfl) (by simp[hf0]) (by simp[upd,ins,subF,lookA]) trivial ?_ ?_
 ·intro i j hi _ ih
  have hri:idx (L.map isv) (i:Int)=some (isv L[i]):=idx_iss hi
  have hrx:idx (L[i].map (AV.int .i64)) x=some (.int .i64 (tg L[i] x)):=idx_tg hx (hxl _ (List.getElem_mem hi))
  rw[hft i hi] at ih
  generalize F i=f at ih⊢
  simp only[spanS,mn,mx] at ih
  generalize tg L[i] x=vi at hrx ih
  generalize L[i]=Ti at hri hrx
  simp -implicitDefEqProofs (maxSteps:=9^9) (disch:=omega) only[go_sem,simprocAttr,hri,hrx,isv]
  exact(ih trivial j).castS rfl (by simp[upd,ins,subF,lookA])
 ·intro j _
  rw[← hfa]
  generalize F L.length=f
  simp -implicitDefEqProofs (maxSteps:=9^9) (disch:=omega) only[go_sem,simprocAttr,Rng.av]
def inT(x:Int)(L:List (List Int)):Prop:=∀t∈L,x<t.length
instance (x:Int)(L:List (List Int)):Decidable (inT x L):=by unfold inT;infer_instance
def ends_s:=spec2 tIss tI fun L x=>if L≠[]∧L.length≤4294967296∧0≤x∧inT x L then some (spanL (fun t=>tg t x) L).av else none
theorem ends_ok:∀xs v,ends_s xs=some v→PureV S 198 xs v:=
 spec2_ok fun L x v h=>by have h:=someIf h;rw[← h.2];exact ends_p L x h.1.1 h.1.2.1 h.1.2.2.1 h.1.2.2.2
def fs109(f:FuncId)(xs:List AV):Option AV:=if f=198 then ends_s xs else fs108 f xs
theorem fs109_ok{S:MC Tryz.prog}:∀f xs v,fs109 f xs=some v→PureV S f xs v:=by
 intro f xs v h
 unfold fs109 at h
 split at h
 ·rename_i e;subst e;exact ends_ok _ _ h
 exact fs108_ok _ _ _ h
attribute [go_sem] fs109 ends_s
theorem tonesL_R{e:Ear}(hc:ck e=0)(hn:truthsR e≠[]):tonesL e=((List.range e.tones.length).map fun(i:Nat)=>spanL (fun t=>tg t i) (truthsR e),0):=by
 have hL:truthsL e≠[]:=fun h=>hn (truthsR_nil.2 h)
 have htk:∀i,i<e.tones.length→∀t,tg (t.take e.tones.length) i=tg t i:=fun i hi t=>tg_take (by omega) (by omega)
 have hk:knownL e=(truthsL e,0):=by unfold knownL;rw[if_neg (by simp[hc]),if_neg hL]
 unfold tonesL
 rw[if_pos (by rw[hk])]
 congr 1
 refine List.map_congr_left fun i hi=>?_
 exact(spanR _ _ hL fun t=>htk i (by simpa using hi) t).symm
theorem rtones_p(e:Ear)(h1:e.tones.length≤4294967296)(h2:e.rds.length≤4294967296):PureV S 149 [e.av] (.tup [.list .no 2 ((tonesL e).1.map Rng.av),.int .i64 (tonesL e).2]):=by
 refine PvE (Tryz.envOK (S:=S) 32 (fun _=>([],[])) fs109 fs109_ok) (tonesL_p) Tryz.kp149 Tryz.func149 rfl ?_
 intro σ
 by_cases hc:ck e=0
 ·have he:=okE_of_ck hc
  have hb':=truthsR_len he
  have hR:rallL e []=truthsR e:=rfl
  have hok:=truthsR_ok he
  have hlen:=he.len
  by_cases hn:truthsR e=[]
  ·have hd:tonesL e=([],9):=by
    have hk:knownL e=([],9):=by unfold knownL;rw[if_neg (by simp[hc]),if_pos (truthsR_nil.1 hn)]
    unfold tonesL;rw[hk,if_neg (by decide)]
   rw[hd]
   rw[hn] at hR
   obtain⟨s,ts,rs⟩:=e
   simp only[Ear.av]
   simp only at h1 h2
   simp -implicitDefEqProofs (maxSteps:=9^9) (disch:=omega) only[go_sem,simprocAttr,hc,small0,hR,tss,List.map_nil]
  ·have hd:=tonesL_R hc hn
   rw[hd]
   obtain⟨s,ts,rs⟩:=e
   simp only[Ear.av]
   simp only at h1 h2 hok hlen
   generalize truthsR ⟨s,ts,rs⟩= L at hb' hR hok hn⊢
   have hL0:¬L.length=0:=fun h=>hn (List.length_eq_zero_iff.1 h)
   have hLn:(L=[])=False:=eq_false hn
   have hin:∀i:Nat,i<ts.length→inT (i:Int) L:=fun i hi t ht=>by rw[(hok t ht).1];omega
   simp -implicitDefEqProofs (maxSteps:=9^9) (disch:=omega) only[go_sem,simprocAttr,hc,small0,hR,tss]
   refine ARun.ghost 6 2 (sz0:=0) rfl (by simp[lookA]) ?_
   simp only[ins,↓reduceIte,List.append_assoc,List.cons_append,List.nil_append,List.length_append,List.length_cons,List.length_nil,Nat.zero_add,Nat.reduceEqDiff,Nat.reduceAdd]
   refine ARun.forS (Tryz.envOK (S:=S) 32 (fun _=>([],[])) fs109 fs109_ok) ts.length (fun _=>True) (fun i=>[(6,.list (.own (σ.length+1)) 2 (((List.range i).map fun(i:Nat)=>spanL (fun t=>tg t i) L).map Rng.av)),(7,.int .i64 i)]) (fun i j=>σ++(.cells [.int .i64 s,.list .no 2 (ts.map Rng.av),.list .no 6 (rs.map Rd.av)]:: .tail i 2::j)) [] (by kernel_rfl) (by simp) (by simp[upd,ins,subF,lookA]) trivial ?_ ?_
   ·intro i j hi _ ih
    have hini:=hin i hi
    rw[List.range_succ,List.map_append] at ih
    have hBl:((List.range i).map fun(i:Nat)=>spanL (fun t=>tg t i) L).length=i:=by simp
    generalize ((List.range i).map fun(i:Nat)=>spanL (fun t=>tg t i) L)=B at hBl ih⊢
    obtain⟨s1,s2,hsp⟩:∃a b,spanL (fun t=>tg t i) L=⟨a,b⟩:=⟨_,_,rfl⟩
    simp only[List.map_cons,List.map_nil,hsp] at ih
    simp -implicitDefEqProofs (maxSteps:=9^9) (disch:=omega) only[go_sem,simprocAttr,hn,hini,hsp,tss,Rng.av]
    exact(ih trivial j).castS (by simp[hBl]) (by simp[upd,ins,subF,lookA,Rng.av])
   ·intro j _
    simp -implicitDefEqProofs (maxSteps:=9^9) (disch:=omega) only[go_sem,simprocAttr]
 ·have hd:tonesL e=([],ck e):=by
   have hk:knownL e=([],ck e):=by unfold knownL;rw[if_pos hc]
   unfold tonesL;rw[hk,if_neg hc]
  rw[hd]
  obtain⟨s,ts,rs⟩:=e
  simp only[Ear.av]
  simp only at h1 h2
  generalize hq:ck ⟨s,ts,rs⟩= q at hc
  simp -implicitDefEqProofs (maxSteps:=9^9) (disch:=omega) only[go_sem,simprocAttr,hq]
def rtones_s:=spec1 tEar fun e=>if e.tones.length≤4294967296∧e.rds.length≤4294967296 then some (.tup [.list .no 2 ((tonesL e).1.map Rng.av),.int .i64 (tonesL e).2]) else none
theorem rtones_ok:∀xs v,rtones_s xs=some v→PureV S 149 xs v:=
 spec1_ok fun e v h=>by have h:=someIf h;rw[← h.2];exact rtones_p e h.1.1 h.1.2
def popN(m:Nat):Nat:=if h:m=0 then 0 else m%2+popN (m/2)
termination_by m
decreasing_by omega
theorem popN_zero:popN 0=0:=by rw[popN];rfl
theorem popN_step(m:Nat):popN m=m%2+popN (m/2):=by
 by_cases h:m=0
 ·subst h;rw[popN_zero]
 ·rw[popN,dif_neg h]
def popF(x:Nat):Nat:=
 let a:=((x/2&&&6148914691236517205)+(x&&&6148914691236517205))%18446744073709551616
 let b:=((a/4&&&3689348814741910323)+(a&&&3689348814741910323))%18446744073709551616
 let c:=(b/16+b)%18446744073709551616&&&1085102592571150095
 let d:=(c+c/256)%18446744073709551616
 let e:=(d+d/65536)%18446744073709551616
 let g:=(e+e/4294967296)%18446744073709551616
 g&&&127
def allB(f:Nat→Bool):Nat→Nat→Bool
 | 0,b=>f b
 | k+1,b=>allB f k (2*b)&&allB f k (2*b+1)
theorem allB_all{f:Nat→Bool}:∀{k b:Nat},allB f k b=true→∀i,i<2^k→f (b*2^k+i)=true
 | 0,b,h,i,hi=>by
  have:i=0:=by simpa using hi
  subst this
  rw[Nat.pow_zero,Nat.mul_one,Nat.add_zero];exact h
 | k+1,b,h,i,hi=>by
  simp only[allB,Bool.and_eq_true] at h
  rw[Nat.pow_succ] at hi⊢
  by_cases hl:i<2^k
  ·have:=allB_all h.1 i hl
   rwa [show 2*b*2^k=b*(2^k*2) by rw[Nat.mul_comm 2 b,Nat.mul_assoc,Nat.mul_comm 2]] at this
  ·have:=allB_all h.2 (i-2^k) (by omega)
   have e:(2*b+1)*2^k+(i-2^k)=b*(2^k*2)+i:=by
    rw[Nat.add_mul,Nat.mul_comm 2 b,Nat.mul_assoc,Nat.mul_comm 2,Nat.one_mul];omega
   rwa [e] at this
set_option maxRecDepth 1000000 in
theorem popF_chk:allB (fun x=>Nat.beq (popF x) (x%2+popF (x/2))) 16 0=true:=by kernel_rfl
theorem popF_eq:∀x,x<65536→popF x=popN x:=by
 intro x
 induction x using Nat.strongRecOn with
 | _ x ih=>
  intro hx
  by_cases h0:x=0
  ·subst h0;rw[popN_zero];rfl
  ·have h1:=allB_all popF_chk x (by omega)
   rw[Nat.zero_mul,Nat.zero_add] at h1
   have h2:=Nat.eq_of_beq_eq_true h1
   rw[h2,popN_step x,ih (x/2) (by omega) (by omega)]
theorem ofInt_nat(a:Nat):BitVec.ofInt 64 (a:Int)=BitVec.ofNat 64 a:=by simp
theorem and_nat(a M:Nat)(hM:M<2^64):(BitVec.ofNat 64 a&&&BitVec.ofNat 64 M).toNat=a&&&M:=by
 rw[BitVec.toNat_and,BitVec.toNat_ofNat,BitVec.toNat_ofNat]
 apply Nat.eq_of_testBit_eq
 intro i
 simp only[Nat.testBit_and,Nat.testBit_mod_two_pow]
 by_cases h:i<64
 ·simp[h]
 ·have:M.testBit i=false:=Nat.testBit_lt_two_pow (Nat.lt_of_lt_of_le hM (Nat.pow_le_pow_right (by omega) (by omega)))
  simp[this]
theorem shr_nat(a:Nat)(k:Nat):((a:Nat):Int).fdiv (2^k)=((a/2^k:Nat):Int):=by
 rw[Int.fdiv_eq_ediv_of_nonneg _ (Int.le_of_lt (Int.pow_pos (by omega)))]
 push_cast;rfl
theorem i64_ofInt(z:Int):BitVec.ofInt 64 (IntKind.i64.wrap z)=BitVec.ofInt 64 z:=by
 apply BitVec.eq_of_toNat_eq
 rw[BitVec.toNat_ofInt,BitVec.toNat_ofInt,IntKind.wrap_i64]
 have:(2^64:Int)=18446744073709551616:=by decide
 simp only[Nat.reducePow,Int.cast_ofNat_Int]
 omega
theorem i64_and(g:Nat):IntKind.i64.wrap (((BitVec.ofInt 64 (IntKind.i64.wrap (g:Int))&&&BitVec.ofInt 64 127).toNat:Nat):Int)=((g&&&127:Nat):Int):=by
 have e:BitVec.ofInt 64 127=BitVec.ofNat 64 127:=rfl
 rw[i64_ofInt,ofInt_nat,e,and_nat g 127 (by decide),IntKind.wrap_i64]
 have:g&&&127≤127:=Nat.and_le_right
 omega
theorem u64_nat(a:Nat):IntKind.u64.wrap ((a:Nat):Int)=((a%18446744073709551616:Nat):Int):=by rw[IntKind.wrap_u64];omega
theorem u64_add(a b:Nat):IntKind.u64.wrap ((a:Int)+(b:Int))=(((a+b)%18446744073709551616:Nat):Int):=by rw[IntKind.wrap_u64];omega
theorem u64_and(a M:Nat)(hM:M<2^64):IntKind.u64.wrap (((BitVec.ofInt 64 (a:Int)&&&BitVec.ofInt 64 (M:Int)).toNat:Nat):Int)=((a&&&M:Nat):Int):=by
 rw[ofInt_nat,ofInt_nat,and_nat a M hM,u64_nat,Nat.mod_eq_of_lt]
 exact Nat.lt_of_le_of_lt Nat.and_le_right hM
theorem pop_m0(a:Nat):IntKind.u64.wrap ((BitVec.toNat (w:=64) (@HAnd.hAnd (BitVec 64) (BitVec 64) (BitVec 64) (@instHAndOfAndOp (BitVec IntKind.u64.bits) (@BitVec.instAndOp IntKind.u64.bits)) (BitVec.ofInt 64 (a:Int)) (BitVec.ofInt 64 6148914691236517205)):Nat):Int)=((a&&&6148914691236517205:Nat):Int):=u64_and a 6148914691236517205 (by decide)
theorem pop_m1(a:Nat):IntKind.u64.wrap ((BitVec.toNat (w:=64) (@HAnd.hAnd (BitVec 64) (BitVec 64) (BitVec 64) (@instHAndOfAndOp (BitVec IntKind.u64.bits) (@BitVec.instAndOp IntKind.u64.bits)) (BitVec.ofInt 64 (a:Int)) (BitVec.ofInt 64 3689348814741910323)):Nat):Int)=((a&&&3689348814741910323:Nat):Int):=u64_and a 3689348814741910323 (by decide)
theorem pop_m2(a:Nat):IntKind.u64.wrap ((BitVec.toNat (w:=64) (@HAnd.hAnd (BitVec 64) (BitVec 64) (BitVec 64) (@instHAndOfAndOp (BitVec IntKind.u64.bits) (@BitVec.instAndOp IntKind.u64.bits)) (BitVec.ofInt 64 (a:Int)) (BitVec.ofInt 64 1085102592571150095)):Nat):Int)=((a&&&1085102592571150095:Nat):Int):=u64_and a 1085102592571150095 (by decide)
theorem pop_i(g:Nat):IntKind.i64.wrap ((BitVec.toNat (w:=64) (@HAnd.hAnd (BitVec 64) (BitVec 64) (BitVec 64) (@instHAndOfAndOp (BitVec IntKind.i64.bits) (@BitVec.instAndOp IntKind.i64.bits)) (BitVec.ofInt 64 (IntKind.i64.wrap (g:Int))) (BitVec.ofInt 64 127)):Nat):Int)=((g&&&127:Nat):Int):=i64_and g
theorem OnesCount64_p(x:Nat)(hx:x<65536):PureV S 232 [.int .u64 x] (.int .i64 (popN x)):=by
 refine PvE (Tryz.envOK (S:=S) 35 (fun _=>([],[])) fs0 fs0_ok) (.int) Tryz.kp232 Tryz.func232 rfl ?_
 intro σ
 rw[← popF_eq x hx]
 have s1:∀a:Nat,((a:Nat):Int).fdiv (2^min 1 64)=((a/2:Nat):Int):=fun a=>shr_nat a 1
 have s2:∀a:Nat,((a:Nat):Int).fdiv (2^min 2 64)=((a/4:Nat):Int):=fun a=>shr_nat a 2
 have s4:∀a:Nat,((a:Nat):Int).fdiv (2^min 4 64)=((a/16:Nat):Int):=fun a=>shr_nat a 4
 have s8:∀a:Nat,((a:Nat):Int).fdiv (2^min 8 64)=((a/256:Nat):Int):=fun a=>shr_nat a 8
 have s16:∀a:Nat,((a:Nat):Int).fdiv (2^min 16 64)=((a/65536:Nat):Int):=fun a=>shr_nat a 16
 have s32:∀a:Nat,((a:Nat):Int).fdiv (2^min 32 64)=((a/4294967296:Nat):Int):=fun a=>shr_nat a 32
 simp -implicitDefEqProofs (maxSteps:=9^9) (disch:=omega) only[go_sem,reduceCtorEq,Nat.reduceAdd,Nat.reduceSub,Nat.reduceMul,Nat.reduceLT,Nat.reduceLeDiff,Nat.reduceEqDiff,Nat.reduceBEq,Int.reduceToNat,Int.reduceLT,Int.reduceLE,Int.reduceEq,Int.reduceNeg,Int.reduceAdd,Int.reduceSub,Int.reduceMul,↓reduceIte,Int.reduceBEq,Int.reduceBNe,s1,s2,s4,s8,s16,s32,pop_m0,pop_m1,pop_m2,u64_add,pop_i]
 simp only[popF]
def popS:List AV→Option AV
 | [.int .u64 z]=>if 0≤z∧z<65536 then some (.int .i64 (popN z.toNat)) else none
 | _=>none
theorem popS_inv{xs:List AV}{v:AV}(h:popS xs=some v):∃x:Nat,x<65536∧xs=[.int .u64 x]∧v= .int .i64 (popN x):=by
 unfold popS at h
 split at h
 ·rename_i z
  have h:=someIf h
  refine⟨z.toNat,by omega,?_,h.2.symm⟩
  rw[Int.toNat_of_nonneg h.1.1]
 ·cases h
def oc64_s:=popS
theorem oc64_ok:∀xs v,oc64_s xs=some v→PureV S 232 xs v:=fun xs v h=>by
 obtain⟨x,h1,rfl,rfl⟩:=popS_inv h
 exact OnesCount64_p x h1
def fs401(f:FuncId)(xs:List AV):Option AV:=if f=232 then oc64_s xs else fs400 f xs
theorem fs401_ok{S:MC Tryz.prog}:∀f xs v,fs401 f xs=some v→PureV S f xs v:=by
 intro f xs v h
 unfold fs401 at h
 split at h
 ·rename_i e;subst e;exact oc64_ok _ _ h
 exact fs400_ok _ _ _ h
attribute [go_sem] fs401 oc64_s
attribute [go_sem] popS Int.toNat_natCast
theorem OnesCount_p(x:Nat)(hx:x<65536):PureV S 209 [.int .u64 x] (.int .i64 (popN x)):=by
 refine PvE (Tryz.envOK (S:=S) 8 (fun _=>([],[])) fs401 fs401_ok) (.int) Tryz.kp209 Tryz.func209 rfl ?_
 intro σ
 simp -implicitDefEqProofs (maxSteps:=9^9) (disch:=omega) only[go_sem,reduceCtorEq,Nat.reduceAdd,Nat.reduceSub,Nat.reduceMul,Nat.reduceLT,Nat.reduceLeDiff,Nat.reduceEqDiff,Nat.reduceBEq,Int.reduceToNat,Int.reduceLT,Int.reduceLE,Int.reduceEq,Int.reduceNeg,Int.reduceAdd,Int.reduceSub,Int.reduceMul,↓reduceIte,Int.reduceBEq,Int.reduceBNe]
def oc_s:=popS
theorem oc_ok:∀xs v,oc_s xs=some v→PureV S 209 xs v:=fun xs v h=>by
 obtain⟨x,h1,rfl,rfl⟩:=popS_inv h
 exact OnesCount_p x h1
def fs402(f:FuncId)(xs:List AV):Option AV:=if f=209 then oc_s xs else fs401 f xs
theorem fs402_ok{S:MC Tryz.prog}:∀f xs v,fs402 f xs=some v→PureV S f xs v:=by
 intro f xs v h
 unfold fs402 at h
 split at h
 ·rename_i e;subst e;exact oc_ok _ _ h
 exact fs401_ok _ _ _ h
attribute [go_sem] fs402 oc_s
theorem many_p(x:Nat)(hx:x<65536):PureV S 178 [.int .u64 x] (.int .i64 (popN x)):=by
 refine PvE (Tryz.envOK (S:=S) 5 (fun _=>([],[])) fs402 fs402_ok) (.int) Tryz.kp178 Tryz.func178 rfl ?_
 intro σ
 simp -implicitDefEqProofs (maxSteps:=9^9) (disch:=omega) only[go_sem,reduceCtorEq,Nat.reduceAdd,Nat.reduceSub,Nat.reduceMul,Nat.reduceLT,Nat.reduceLeDiff,Nat.reduceEqDiff,Nat.reduceBEq,Int.reduceToNat,Int.reduceLT,Int.reduceLE,Int.reduceEq,Int.reduceNeg,Int.reduceAdd,Int.reduceSub,Int.reduceMul,↓reduceIte,Int.reduceBEq,Int.reduceBNe]
def many_s:=popS
theorem many_ok:∀xs v,many_s xs=some v→PureV S 178 xs v:=fun xs v h=>by
 obtain⟨x,h1,rfl,rfl⟩:=popS_inv h
 exact many_p x h1
theorem has_bit(x n:Nat):(((x/2^n&&&1:Nat):Int)=1)=(x.testBit n=true):=by
 have h1:x.testBit n=(x/2^n%2==1):=by rw[Nat.testBit_eq_decide_div_mod_eq];rfl
 rw[h1,Nat.and_one_is_mod,beq_iff_eq]
 apply propext;omega
theorem has_p(x n:Nat)(hx:x<65536)(hn:n<64):PureV S 157 [.int .u64 x,.int .i64 n] (.bool (x.testBit n)):=by
 refine PvE (Tryz.envOK (S:=S) 10 (fun _=>([],[])) fs0 fs0_ok) (.bool) Tryz.kp157 Tryz.func157 rfl ?_
 intro σ
 simp -implicitDefEqProofs (maxSteps:=9^9) (disch:=omega) only[go_sem,reduceCtorEq,Nat.reduceAdd,Nat.reduceSub,Nat.reduceMul,Nat.reduceLT,Nat.reduceLeDiff,Nat.reduceEqDiff,Nat.reduceBEq,Int.reduceToNat,Int.reduceLT,Int.reduceLE,Int.reduceEq,Int.reduceNeg,Int.reduceAdd,Int.reduceSub,Int.reduceMul,↓reduceIte,Int.reduceBEq,Int.reduceBNe]
 have e1:min n 64=n:=by omega
 have e2:=u64_and (x/2^n) 1 (by decide)
 have e3:((x:Nat):Int).fdiv (2^min n 64)=((x/2^n:Nat):Int):=by rw[e1];exact shr_nat x n
 have e4:IntKind.u64.wrap (((BitVec.ofInt 64 (((x:Nat):Int).fdiv (2^min n 64))&&&BitVec.ofInt 64 1).toNat:Nat):Int)=((x/2^n&&&1:Nat):Int):=by rw[e3];exact e2
 have e5:=has_bit x n
 refine⟨fun h=>?_,fun h=>?_⟩
 ·have h2:((x/2^n&&&1:Nat):Int)=1:=e4.symm.trans h
  rw[e5] at h2;exact h2.symm
 ·have h2:¬((x/2^n&&&1:Nat):Int)=1:=fun e=>h (e4.trans e)
  rw[e5] at h2;exact(Bool.eq_false_iff.2 h2).symm
theorem with_p(x n:Nat)(hx:x<65536)(hn:n<16):PureV S 106 [.int .u64 x,.int .i64 n] (.int .u64 ((x|||2^n:Nat):Int)):=by
 refine PvE (Tryz.envOK (S:=S) 9 (fun _=>([],[])) fs0 fs0_ok) (.int) Tryz.kp106 Tryz.func106 rfl ?_
 intro σ
 simp -implicitDefEqProofs (maxSteps:=9^9) (disch:=omega) only[go_sem,reduceCtorEq,Nat.reduceAdd,Nat.reduceSub,Nat.reduceMul,Nat.reduceLT,Nat.reduceLeDiff,Nat.reduceEqDiff,Nat.reduceBEq,Int.reduceToNat,Int.reduceLT,Int.reduceLE,Int.reduceEq,Int.reduceNeg,Int.reduceAdd,Int.reduceSub,Int.reduceMul,↓reduceIte,Int.reduceBEq,Int.reduceBNe]
 have e1:min n 64=n:=by omega
 have hp:(2:Nat)^n≤2^15:=Nat.pow_le_pow_right (by omega) (by omega)
 have e2:IntKind.u64.wrap (1*2^min n 64)=((2^n:Nat):Int):=by
  rw[e1,Int.one_mul]
  have:((2:Int)^n)=((2^n:Nat):Int):=by push_cast;rfl
  rw[this,u64_nat,Nat.mod_eq_of_lt (by omega)]
 have e3:IntKind.u64.wrap (((BitVec.ofInt 64 (x:Int)|||BitVec.ofInt 64 ((2^n:Nat):Int)).toNat:Nat):Int)=((x|||2^n:Nat):Int):=by
  rw[ofInt_nat,ofInt_nat,BitVec.toNat_or,BitVec.toNat_ofNat,BitVec.toNat_ofNat,Nat.mod_eq_of_lt (by omega),Nat.mod_eq_of_lt (by omega),u64_nat,Nat.mod_eq_of_lt]
  have:x|||2^n<2^16:=Nat.or_lt_two_pow (by omega) (by omega)
  omega
 rw[e2];exact e3
def has_s:List AV→Option AV
 | [.int .u64 z,.int .i64 n]=>if(0≤z∧z<65536)∧0≤n∧n<64 then some (.bool (z.toNat.testBit n.toNat)) else none
 | _=>none
theorem has_ok:∀xs v,has_s xs=some v→PureV S 157 xs v:=fun xs v h=>by
 unfold has_s at h
 split at h
 ·rename_i z n
  have h:=someIf h
  rw[← h.2,← Int.toNat_of_nonneg h.1.1.1,← Int.toNat_of_nonneg h.1.2.1]
  simp only[Int.toNat_natCast]
  exact has_p _ _ (by omega) (by omega)
 ·cases h
def with_s:List AV→Option AV
 | [.int .u64 z,.int .i64 n]=>if(0≤z∧z<65536)∧0≤n∧n<16 then some (.int .u64 ((z.toNat|||2^n.toNat:Nat):Int)) else none
 | _=>none
theorem with_ok:∀xs v,with_s xs=some v→PureV S 106 xs v:=fun xs v h=>by
 unfold with_s at h
 split at h
 ·rename_i z n
  have h:=someIf h
  rw[← h.2,← Int.toNat_of_nonneg h.1.1.1,← Int.toNat_of_nonneg h.1.2.1]
  simp only[Int.toNat_natCast]
  exact with_p _ _ (by omega) (by omega)
 ·cases h
def fs403(f:FuncId)(xs:List AV):Option AV:=if f=178 then many_s xs else if f=157 then has_s xs else if f=106 then with_s xs else fs402 f xs
theorem fs403_ok{S:MC Tryz.prog}:∀f xs v,fs403 f xs=some v→PureV S f xs v:=by
 intro f xs v h
 unfold fs403 at h
 split at h
 ·rename_i e;subst e;exact many_ok _ _ h
 split at h
 ·rename_i e;subst e;exact has_ok _ _ h
 split at h
 ·rename_i e;subst e;exact with_ok _ _ h
 exact fs402_ok _ _ _ h
attribute [go_sem] fs403 many_s has_s with_s
end Go.Proofs
namespace Go.Proofs
open Go Go.Mu
def setF(h d m:Int)(s:Sg):Int:=if s.hand=h∧s.day≤d then(if m<s.day then s.day else m) else m
def fromL(l:List Sg)(h d:Int):Int:=l.foldl (setF h d) 0
theorem from_in{h d:Int}:∀(l:List Sg) (m:Int),0≤m→m≤d→0≤l.foldl (setF h d) m∧l.foldl (setF h d) m≤d
 | [],m,h1,h2=>⟨h1,h2⟩
 | s::l,m,h1,h2=>by
  have:0≤setF h d m s∧setF h d m s≤d:=by unfold setF;(repeat' split)<;> omega
  exact from_in l _ this.1 this.2
theorem fromL_in{l:List Sg}{h d:Int}(hd:0≤d):0≤fromL l h d∧fromL l h d≤d:=from_in l 0 (Int.le_refl 0) hd
structure Ros.Head(r:Ros):Prop where
 hands:1≤r.hands∧r.hands≤4
 skill:0≤r.skill∧r.skill≤9
 mn: -5≤r.mn∧r.mn≤r.mx∧r.mx≤5
 setl:r.sets.length≤4
 set:∀s∈r.sets,(0≤s.hand∧s.hand<r.hands)∧0≤s.day∧s.day≤60
 entl:r.ents.length≤5
theorem Ros.head_of{r:Ros}(h:headE r=0):r.Head:=by
 unfold headE at h
 split at h
 ·cases h
 rename_i h1
 split at h
 ·cases h
 split at h
 ·cases h
 split at h
 ·rename_i h2;exact absurd h h2
 rename_i h2 h3 h4
 split at h
 ·cases h
 refine⟨by omega,by omega,by omega,by omega,fun s hs=>?_,by omega⟩
 have:=firstE_all (Classical.byContradiction h4) s hs
 unfold setE at this
 split at this
 ·cases this
 split at this
 ·cases this
 omega
theorem firstNZ_all:∀{l:List Int},firstNZ l=0→∀x∈l,x=0
 | [],_,x,hx=>by simp at hx
 | y::l,h,x,hx=>by
  rw[firstNZ] at h
  split at h
  ·rename_i hy
   rcases List.mem_cons.1 hx with rfl | hx
   ·exact hy
   ·exact firstNZ_all h x hx
  ·rename_i hy;exact absurd h hy
structure Ros.Good(r:Ros):Prop extends r.Head where
 ent:∀x∈r.ents,(0≤x.day∧x.day≤60)∧(-1≤x.hand∧x.hand<r.hands)∧(1≤x.due∧x.due≤100000)∧ck x.ear=0∧x.ear.tones.length≤1∧(askL x.ear (oneE x.ear 0)).2=0
theorem ent_of{x:Tn}{h:Int}(he:(chkE x h).2=0):(0≤x.day∧x.day≤60)∧(-1≤x.hand∧x.hand<h)∧(1≤x.due∧x.due≤100000)∧ck x.ear=0∧x.ear.tones.length≤1∧(askL x.ear (oneE x.ear 0)).2=0:=by
 unfold chkE at he
 split at he
 ·cases he
 split at he
 ·cases he
 split at he
 ·cases he
 split at he
 ·rename_i h4;exact absurd he h4
 split at he
 ·cases he
 rename_i h1 h2 h3 h4 h5
 refine⟨by omega,by omega,by omega,by omega,by omega,?_⟩
 simp only at he
 unfold valuesL at he
 split at he
 ·assumption
 ·rename_i h6;exact absurd he h6
theorem Ros.good_of{r:Ros}(h:headE r=0)(he:entsE r=0):r.Good:=
 ⟨r.head_of h,fun x hx=>ent_of (firstNZ_all he _ (List.mem_map.2 ⟨x,hx,rfl⟩))⟩
theorem chkE_good{x:Tn}{h:Int}(hd:1≤x.due∧x.due≤100000)(hk:ck x.ear=0)(ha:(askL x.ear (oneE x.ear 0)).2=0)(ht:x.ear.tones.length≤1):(∀y∈(chkE x h).1, -2000000≤y∧y≤2000000)∧(chkE x h).1.length≤1000000:=by
 have hv:=valuesL_le hk ha ht
 unfold chkE
 repeat' split
 all_goals first
  | exact⟨fun y hy=>absurd hy List.not_mem_nil,Nat.zero_le _⟩
  | (refine⟨fun y hy=>?_,by simpa using hv.2⟩;obtain⟨z,hz,rfl⟩:=List.mem_map.1 hy;have:=hv.1 z hz;omega)
theorem Ros.Good.devs{r:Ros}(h:r.Good):∀l∈entsL r,(∀y∈l, -2000000≤y∧y≤2000000)∧l.length≤1000000:=by
 intro l hl
 obtain⟨x,hx,rfl⟩:=List.mem_map.1 hl
 obtain⟨_,_,h3,h4,h5,h6⟩:=h.ent x hx
 exact chkE_good h3 h4 h6 h5
theorem entsL_len(r:Ros):(entsL r).length=r.ents.length:=by simp[entsL]
def rtv(x:List Int):AV:= .agg (x.map (.int .i64))
theorem rtv_plain(x:List Int):Plain (rtv x):= .agg (by intro v hv;obtain⟨z,_,rfl⟩:=List.mem_map.1 hv;exact .int)
structure OkX(r:Ros)(x:List Int):Prop where
 len:x.length=4
 rate:∀n∈x, -5≤n∧n≤5
theorem OkX.at{r:Ros}{x:List Int}(h:OkX r x)(i:Int): -5≤tg x i∧tg x i≤5:=by
 unfold tg
 rw[List.getD_eq_getElem?_getD]
 cases he:x[i.toNat]? with
 | none=>simp
 | some n=>simpa using h.rate n (List.mem_of_getElem? he)
def offX(r:Ros)(x:List Int)(h d:Int):Int:=tg x h*(d-fromL r.sets h d)
theorem offX_in{r:Ros}{x:List Int}(hx:OkX r x){h d:Int}(hd:0≤d∧d≤60): -300≤offX r x h d∧offX r x h d≤300:=by
 have h1:=hx.at h
 have h2:=@fromL_in r.sets h d hd.1
 unfold offX
 generalize tg x h=a at *
 have h3:0≤d-fromL r.sets h d∧d-fromL r.sets h d≤60:=by omega
 generalize d-fromL r.sets h d=b at *
 rcases(by omega:a= -5∨a= -4∨a= -3∨a= -2∨a= -1∨a=0∨a=1∨a=2∨a=3∨a=4∨a=5) with rfl | rfl | rfl | rfl | rfl | rfl | rfl | rfl | rfl | rfl | rfl<;> omega
instance : Inhabited Tn:=⟨⟨0,0,0,default⟩⟩
def byB(r:Ros)(ds:List (List Int))(x:List Int)(i:Nat)(h:Int):Bool:=
 if 0≤(r.ents.getD i default).hand∧(r.ents.getD i default).hand≠h then false
 else(ds.getD i []).any fun d=>decide (-r.skill≤d-offX r x h (r.ents.getD i default).day∧d-offX r x h (r.ents.getD i default).day≤r.skill)
def isB(r:Ros)(ds:List (List Int))(x:List Int):Bool:=(List.range r.ents.length).all fun i=>(List.range r.hands.toNat).any fun h=>byB r ds x i h
def allR(r:Ros)(s:Nat):Nat→List Int→Nat→List (List Int)
 | 0,x,_=>[x]
 | m+1,x,a=>if s.testBit a then(List.range (r.mx-r.mn+1).toNat).flatMap fun(k:Nat)=>if r.mn+k=0 then[] else allR r s m (setI x a (r.mn+k)) (a+1) else allR r s m x (a+1)
def htruthsR(r:Ros)(ds:List (List Int))(s:Nat):List (List Int):=(allR r s r.hands.toNat [0,0,0,0] 0).filter (isB r ds)
end Go.Proofs
namespace Go.Proofs
open Go Go.Mu
variable {S:MC Tryz.prog}
theorem take_foldl{α β:Type}{f:β→α→β}{b:β}{l:List α}{i:Nat}(h:i<l.length):(l.take (i+1)).foldl f b=f ((l.take i).foldl f b) l[i]:=by
 rw[List.take_succ_eq_append_getElem h,List.foldl_append];rfl
theorem since_p(r:Ros)(ds:List (List Int))(hr:r.Head)(h d:Int)(hd:0≤d∧d≤60):PureV S 144 [r.wav ds,.int .i64 h,.int .i64 d] (.int .i64 (d-fromL r.sets h d)):=by
 refine PvE (Tryz.envOK (S:=S) 36 (fun _=>([],[])) fs403 fs403_ok) (.int) Tryz.kp144 Tryz.func144 rfl ?_
 intro σ
 obtain⟨hands,skill,mn,mx,sets,ents⟩:=r
 have hl:=hr.setl
 simp only[Ros.wav] at hl⊢
 simp -implicitDefEqProofs (maxSteps:=9^9) (disch:=omega) only[go_sem,simprocAttr]
 refine ARun.forS (Tryz.envOK (S:=S) 36 (fun _=>([],[])) fs403 fs403_ok) sets.length (fun _=>True) (fun i=>[(7,.int .i64 ((sets.take i).foldl (setF h d) 0)),(14,.int .i64 i)]) (fun _ j=>σ++(.cells [.int .i64 hands,.int .i64 skill,.int .i64 mn,.int .i64 mx,.list .no 2 (sets.map Sg.av),.list .no 6 (ents.map Tn.av),.list .no 1 (ds.map ints1)]::j)) [] (by kernel_rfl) (by simp) (by simp[upd,ins,subF,lookA]) trivial ?_ ?_
 ·intro i j hi _ ih
  rw[take_foldl hi] at ih
  obtain⟨f1,f2⟩:=@from_in h d (sets.take i) 0 (Int.le_refl 0) hd.1
  generalize (sets.take i).foldl (setF h d) 0=m at *
  simp -implicitDefEqProofs (maxSteps:=9^9) (disch:=omega) only[go_sem,simprocAttr,Sg.av]
  refine⟨fun p1=>⟨fun p2=>?_,fun p2=>?_⟩,fun p1=>?_⟩
  ·exact(ih trivial (j++[_])).castS rfl (by simp[upd,ins,subF,lookA,setF,p1,p2])
  ·exact(ih trivial (j++[_])).castS rfl (by simp[upd,ins,subF,lookA,setF,p1,p2])
  ·exact(ih trivial (j++[_])).castS rfl (by simp[upd,ins,subF,lookA,setF,p1])
 ·intro j _
  rw[List.take_length]
  obtain⟨f1,f2⟩:=@from_in h d sets 0 (Int.le_refl 0) hd.1
  have hw:IntKind.i64.wrap (d-sets.foldl (setF h d) 0)=d-sets.foldl (setF h d) 0:=wrap64 (by omega) (by omega)
  simp -implicitDefEqProofs (maxSteps:=9^9) (disch:=omega) only[go_sem,simprocAttr,hw]
  rfl
theorem ClV.ap0{P:Program}{S:MC P}{g:FuncId}{p q:List AV}{σ:List AObj}{x:AV}{v:AV}(h:ClV S g p q σ [x] v){Q:AV→List AObj→Prop}(hq:Q v σ):ACalls S g (p++x::q) σ Q:=by
 have:=h σ (Nat.le_refl _) (fun _ _=>rfl) Q hq
 simpa using this
theorem indexI_c{g:FuncId}{p q:List AV}{σ:List AObj}(f:Int→Bool)(l:List Int)(tk:Tok)(hl:l.length≤4294967296)(hn:∀d∈l,ClV S g p q σ [.int .i64 d] (.bool (f d)))(Q:AV→List AObj→Prop)(h:∀n:Int,decide (0≤n)=l.any f→Q (.int .i64 n) σ) :
  ACalls S 201 [.list tk 1 (l.map (.int .i64)),.fn (.func g) p q] σ Q:=by
 refine AcE (Tryz.envOK (S:=S) 19 (fun _=>([],[])) fs0 fs0_ok) Tryz.kp201 Tryz.func201 rfl ?_
 simp -implicitDefEqProofs (maxSteps:=9^9) (disch:=omega) only[go_sem,simprocAttr]
 refine ARun.forS (Tryz.envOK (S:=S) 19 (fun _=>([],[])) fs0 fs0_ok) l.length (fun i=>(l.take i).any f=false) (fun i=>[(8,.int .i64 i)]) (fun _ _=>σ) [] (by kernel_rfl) rfl (by simp[upd,ins,subF,lookA]) (by simp) ?_ ?_
 ·intro i j hi hp ih
  have hmi:l[i]∈l:=List.getElem_mem hi
  simp -implicitDefEqProofs (maxSteps:=9^9) (disch:=omega) only[go_sem,simprocAttr]
  refine(hn _ hmi).ap0 ?_
  cases hb:f l[i]
  ·simp -implicitDefEqProofs (maxSteps:=9^9) (disch:=omega) only[go_sem,simprocAttr]
   refine(ih ?_ []).castS rfl (by simp[upd,ins,subF,lookA])
   rw[List.take_succ_eq_append_getElem hi,List.any_append,hp];simp[hb]
  ·simp -implicitDefEqProofs (maxSteps:=9^9) (disch:=omega) only[go_sem,simprocAttr]
   refine h _ ?_
   have:l.any f=true:=List.any_eq_true.2 ⟨_,hmi,hb⟩
   rw[this];simp
 ·intro j hp
  rw[List.take_length] at hp
  simp -implicitDefEqProofs (maxSteps:=9^9) (disch:=omega) only[go_sem,simprocAttr]
  refine h _ ?_
  rw[hp];simp
theorem containsI_c{g:FuncId}{p q:List AV}{σ:List AObj}(f:Int→Bool)(l:List Int)(tk:Tok)(hl:l.length≤4294967296)(hn:∀d∈l,ClV S g p q σ [.int .i64 d] (.bool (f d)))(Q:AV→List AObj→Prop)(h:Q (.bool (l.any f)) σ) :
  ACalls S 155 [.list tk 1 (l.map (.int .i64)),.fn (.func g) p q] σ Q:=by
 refine AcE (Tryz.envOK (S:=S) 9 (fun _=>([],[])) fs0 fs0_ok) Tryz.kp155 Tryz.func155 rfl ?_
 simp -implicitDefEqProofs (maxSteps:=9^9) (disch:=omega) only[go_sem,simprocAttr]
 refine indexI_c f l tk hl hn _ fun n hn=>?_
 rw[← hn] at h
 by_cases h0:0≤n
 ·have e:decide (0≤n)=true:=by simpa using h0
  rw[e] at h
  simp -implicitDefEqProofs (maxSteps:=9^9) (disch:=omega) only[go_sem,simprocAttr]
  exact h
 ·have e:decide (0≤n)=false:=by simpa using h0
  rw[e] at h
  simp -implicitDefEqProofs (maxSteps:=9^9) (disch:=omega) only[go_sem,simprocAttr]
  exact h
def Ros.wcells(r:Ros)(l:List (List Int)):List AV:=[.int .i64 r.hands,.int .i64 r.skill,.int .i64 r.mn,.int .i64 r.mx,.list .no 2 (r.sets.map Sg.av),.list .no 6 (r.ents.map Tn.av),.list .no 1 (l.map ints1)]
theorem by1_v{σ:List AObj}{re rr:Nat}{r:Ros}{ds:List (List Int)}{e d:Int}(hs:0≤r.skill∧r.skill≤9)(he: -300≤e∧e≤300)(hd: -2000000≤d∧d≤2000000)(h1:hget σ re=some (.cells [.int .i64 e]))(h2:hget σ rr=some (.cells (r.wcells ds))) :
  ClV S 156 [] [.ptr re 0,.ptr rr 0] σ [.int .i64 d] (.bool (decide (-r.skill≤d-e∧d-e≤r.skill))):=by
 intro σ' hl' hs' Q hq
 have h1':=(hs' _ (hget_lt h1)).trans h1
 have h2':=(hs' _ (hget_lt h2)).trans h2
 simp only[List.nil_append,List.cons_append]
 refine ACalls.clean_ev (E:=Tryz.E (S:=S) 16 (fun _=>([],[])) fs403) (Tryz.envOK (S:=S) 16 (fun _=>([],[])) fs403 fs403_ok) (.bool _) (hq) Tryz.kp156 Tryz.func156 rfl (by kernel_rfl) (by simp[Tryz.E]) (Callable.of Tryz.func156 (by kernel_rfl) (by kernel_rfl)) (by kernel_rfl) ?_
 have hw:IntKind.i64.wrap (d-e)=d-e:=wrap64 (by omega) (by omega)
 have hw2:IntKind.i64.wrap (-r.skill)= -r.skill:=wrap64 (by omega) (by omega)
 simp -implicitDefEqProofs (maxSteps:=9^9) (disch:=omega) only[go_sem,simprocAttr,h1',h2',Ros.wcells,hw,hw2]
 exact⟨fun a b=>(decide_eq_true (by omega)).symm,fun h=>(decide_eq_false (by omega)).symm⟩
theorem by_p(r:Ros)(hr:r.Head)(ds:List (List Int))(hds:∀l∈ds,(∀y∈l, -2000000≤y∧y≤2000000)∧l.length≤1000000)(hdl:ds.length=r.ents.length)(hde:∀t∈r.ents,0≤t.day∧t.day≤60)(x:List Int)(hx:OkX r x)(i:Nat)(hi:i<r.ents.length)(h:Int)(hh:0≤h∧h<4) :
  PureV S 111 [r.wav ds,rtv x,.int .i64 i,.int .i64 h] (.bool (byB r ds x i h)):=by
 refine PvE (Tryz.envOK (S:=S) 42 Tryz.ord111 fs403 fs403_ok) (.bool) Tryz.kp111 Tryz.func111 rfl ?_
 intro σ
 have hid:i<ds.length:=by omega
 have hgd:r.ents.getD i default=r.ents[i]:=by simp[List.getD,List.getElem?_eq_getElem hi]
 have hgs:ds.getD i []=ds[i]:=by simp[List.getD,List.getElem?_eq_getElem hid]
 have hday:=hde _ (List.getElem_mem hi)
 have hdi:=hds _ (List.getElem_mem hid)
 have hoff:=@offX_in r x hx h r.ents[i].day hday
 have hel:=hr.entl
 have hxl:=hx.len
 have hby:byB r ds x i h=if 0≤r.ents[i].hand∧r.ents[i].hand≠h then false else ds[i].any fun d=>decide (-r.skill≤d-offX r x h r.ents[i].day∧d-offX r x h r.ents[i].day≤r.skill):=by
  unfold byB;rw[hgd,hgs]
 rw[hby]
 clear hgd hgs hby hds hde
 have hav:r.wav ds= .agg (r.wcells ds):=rfl
 simp only[hav,rtv]
 simp -implicitDefEqProofs (maxSteps:=9^9) (disch:=omega) only[go_sem,simprocAttr,Ros.wcells,Tn.av,Tn.cells]
 have hw:IntKind.i64.wrap (tg x h*(r.ents[i].day-fromL r.sets h r.ents[i].day))=offX r x h r.ents[i].day:=wrap64 (by unfold offX at hoff;omega) (by unfold offX at hoff;omega)
 refine⟨fun q1=>⟨fun q2=>?_,fun q2=>?_⟩,fun q1=>?_⟩
 ·rw[if_pos ⟨q1,q2⟩]
 ·rw[if_neg (fun c=>c.2 q2)]
  refine since_p r ds hr h _ hday _ _ ?_
  simp -implicitDefEqProofs (maxSteps:=9^9) (disch:=omega) only[go_sem,simprocAttr,Ros.wcells,Tn.av,Tn.cells,hw,ints1]
  refine containsI_c (fun d=>decide (-r.skill≤d-offX r x h r.ents[i].day∧d-offX r x h r.ents[i].day≤r.skill)) ds[i] .no (by omega) (fun d hd=>by1_v (r:=r) (ds:=ds) hr.skill hoff (hdi.1 d hd) hget_at (by simp[hget_at0,Ros.wcells])) _ ?_
  simp -implicitDefEqProofs (maxSteps:=9^9) (disch:=omega) only[go_sem,simprocAttr,Ros.wcells,Tn.av,Tn.cells,hw,ints1]
 ·rw[if_neg (fun c=>q1 c.1)]
  refine since_p r ds hr h _ hday _ _ ?_
  simp -implicitDefEqProofs (maxSteps:=9^9) (disch:=omega) only[go_sem,simprocAttr,Ros.wcells,Tn.av,Tn.cells,hw,ints1]
  refine containsI_c (fun d=>decide (-r.skill≤d-offX r x h r.ents[i].day∧d-offX r x h r.ents[i].day≤r.skill)) ds[i] .no (by omega) (fun d hd=>by1_v (r:=r) (ds:=ds) hr.skill hoff (hdi.1 d hd) hget_at (by simp[hget_at0,Ros.wcells])) _ ?_
  simp -implicitDefEqProofs (maxSteps:=9^9) (disch:=omega) only[go_sem,simprocAttr,Ros.wcells,Tn.av,Tn.cells,hw,ints1]
end Go.Proofs
