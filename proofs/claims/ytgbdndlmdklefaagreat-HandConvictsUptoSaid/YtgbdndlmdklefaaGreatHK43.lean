/- What arguments read as, and a call's end: between the abstract layer and the rows. -/
import Derived.Test.YtgbdndlmdklefaaGreatHK15
import Derived.WideKeyArgs
import Derived.ChangeSame
import Derived.ChangeSlices
set_option linter.unusedSimpArgs false
set_option linter.unusedVariables false
namespace Go.Mu
open Go Go.Conc Go.ChangeShapes Go.WideShapes
def eU(W:World):Kr:=⟨fun _=>0,fun _ _=>none,fun b o=>W.cell? ⟨b,o,none⟩⟩
def Mb(W:World):Prop:=∀g cs,gx g=some cs→∃E fz,W.heap[g]? = some (.cells cs E fz)
theorem G3(W:World)(hL:Mb W):R (eU W) [] W:=⟨fun _ _ _ h=>h,fun _ _ h=>by simp at h,fun _ _ _ _ _ h=>by simp at h,fun g cs hg=>⟨hL g cs hg,fun r o h=>by simp at h⟩⟩
structure Kept(W W':World):Prop where
 heap:∀b,b<W.heap.size→W'.heap[b]? = W.heap[b]?
 size:W.heap.size≤W'.heap.size
 os:W'.os=W.os
 output:W'.output=W.output
theorem C7{P:Program}{w:World}{fr:Frame}{v:Value}(hm:fr.mode= .returning)(hd:fr.defers=[])(hk:fr.kind= .normal){fn:Func}(hf:P.funcs[fr.fn]? = some fn)(hr:(results fn fr.tmps).run P w= .ok v w)(hi:P.inits.idxOf? fr.fn=none) :
  stepG P true (G fr []) w= .ended (.done v) w (seen P fr.fn ((results fn fr.tmps).events P w #[])):=by
 simp[G,stepG,unwind,doReturn,hm,hd,hk,hf,hr,hi,GStep.after]
theorem uW{P:Program}{S:MC P}{f:FuncId}{args:Array Value}{W:World}{avs:List AV}(h:ao S f avs [] fun v _=>v= .bool true)(hS:S (Bes P))(hL:Mb W)(hi:P.inits.idxOf? f=none)(hv:VRs (eU W) 0 avs args.toList) :
  ∃N last o w' t',runNT P (N+1) (solo (G (Frame.enter P f args .normal) []) W) #[]=(.ended o w',t')∧runN P N (solo (G (Frame.enter P f args .normal) []) W)= .next last∧step P last= .ended o w'∧Conc.Good P (fun v W'=>v= .bool true∧Kept W W') last o w' t':=by
 have hR:=G3 W hL
 have hO:aU (Bes P).Sh (fun b=>b<W.heap.size) (eU W) [] W:=
  ⟨fun b hb=>absurd (fun r o h1=>by simp at h1) hb,fun b o v hv=>hR.nC hv,fun g cs hg=>by obtain⟨E,fz,h1⟩:=hL g cs hg;exact(Array.getElem?_eq_some_iff.1 h1).1,fun b hb=>hb.elim⟩
 refine JB.lW (V:=fun b=>b<W.heap.size) (JB.bind (h.2 (Bes P) hS (eU W) W _ args .normal [] hR hO hv) fun g' w' V' hp=>JB.ret ?_)
 obtain⟨fr,v,σ',K',rfl,h2,h3,h4,rfl,h6,h7,h8⟩:=hp
 refine⟨rfl,fun w₁ hr=>?_⟩
 obtain⟨fn,f1,f2⟩:=h4.fn
 obtain⟨v',g1,g2,g3⟩:=f2 w₁ hr
 have:=g2.dX;subst this
 refine⟨_,_,C7 h4.mode h4.defers h3 f1 g1 (by rw[h2];exact hi),fun e he=>?_,rfl,fun b hb=>?_,?_,?_,?_⟩
 ·exact g3 e (Conc.mem_seen he)
 ·have k:=h8.keep b hb hb (fun r o h1=>by simp at h1)
  exact(hr.keep b (Nat.lt_of_lt_of_le hb h8.size) (h8.sub b hb)).trans k.1
 ·exact Nat.le_trans h8.size hr.size
 ·exact hr.os.trans h8.os
 ·exact hr.output.trans h8.output
theorem Kept.but{W W':World}(h:Kept W W')(m:MemPlace→Prop):W.keptBut W' m:=by
 refine⟨h.os,h.output,fun i hi=>?_⟩
 rw[h.heap i hi]
 cases W.heap[i]? with
 | none=>trivial
 | some o=>cases o<;> simp
theorem Kept.same{W W':World}(h:Kept W W'){p:MemPlace}(hp:p.block<W.heap.size):W.sameAt W' p:=by
 cases p with
 | cell b off=>exact fG (h.heap b hp)
 | map b=>exact h.heap b hp
section
variable {H:Type}{enc:TypeId×Value→H}{P:Program}{W:World}
theorem oQ(hl:laidOutB P=true){W':World}{sp:Nat→Bool}:∀{ts:List TypeId} {vs:List Value} {ds:List (DataW H)} {p:List MemPlace},(∀t∈ts,P.readableRec t=true∧t<P.types.size)→
  DataW.TrodAll enc P W 0 (fun _=>true) true ts vs ds p→(∀q∈p,W.sameAt W' q)→(∀q∈p,sp q.block=true)→DataW.TrodAll enc P W' 0 sp true ts vs ds p
 | [],vs,ds,p,_,h,_,_=>by
  obtain⟨rfl,rfl,rfl⟩:=trodAll_nil h
  exact trodAll_mk0
 | t::ts,vs,ds,p,ht,h,h1,h2=>by
  obtain⟨v,vs',d,ds',p1,p2,rfl,rfl,rfl,g1,g2⟩:=trodAll_cons h
  have:=ht t (by simp)
  exact⟨p1,p2,Go.WideElems.Trod_stays hl this.1 this.2 g1 (fun q hq=>h1 q (by simp[hq])) (fun q hq=>h2 q (by simp[hq])),oQ hl (fun t' h'=>ht t' (by simp[h'])) g2 (fun q hq=>h1 q (by simp[hq])) (fun q hq=>h2 q (by simp[hq])),rfl⟩
theorem Ek{f:Func}{s:ChangeSpec}{apart fresh handsOn:Bool}{W':World}{args:Array Value}{v:Value}{ds gs:List (DataW H)}{before pa pv:List MemPlace}
  (hW:DataW.Whole enc P f.params.toList s.vars apart W args.toList ds gs before)
  (hr:∀b sp hd,DataW.TrodAll enc P W' b sp hd f.resultTypes.toList (v.resultList f.resultTypes.size) (s.fn H (ds++gs)).results [])
  (ha:DataW.TrodAll enc P W' 0 (fun b=>decide (b<W.heap.size)) true f.params.toList args.toList (s.fn H (ds++gs)).args pa)
  (hv:DataW.TrodVars enc P W' (fun b=>decide (b<W.heap.size)) s.vars (s.fn H (ds++gs)).vars pv) (hk:∀m,W.keptBut W' m):s.post enc P f apart fresh handsOn false W args v W':=
 ⟨ds,gs,before,[],pa,pv,hW,hr _ _ _,ha,hv,hk _,fun h=>by cases h⟩
def gn(H:Type)(enc:TypeId×Value→H)(P:Program)(W:World)(t:TypeId):Prop:=∀n cs x,DataW.trod enc P W 0 (fun _=>true) true n t cs=some x→cs.length=P.cellsOf t∧∀c∈cs,∃z,c= .int .i64 z
theorem AM{t:TypeId}(ht:P.underlying t=some (.int .i64))(hc:P.cellsOf t=1):gn H enc P W t:=fun n cs x h=>by
 obtain⟨z,rfl,_⟩:=DataW.trod_int ht h
 exact⟨by simp[hc],fun c hc=>⟨z,by simpa using hc⟩⟩
theorem vI{t:TypeId}{fs:Array Field}(ht:P.underlying t=some (.struct fs))(hf:∀f∈fs.toList,gn H enc P W f.type)
  (hc:∀j,j<P.cellsOf t→∃f∈fs.toList,f.offset≤j∧j<f.offset+P.cellsOf f.type):gn H enc P W t:=fun n cs x h=>by
 obtain⟨xs,m,_,_,h1,h2,h3⟩:=DataW.trod_struct ht h
 refine⟨h1,fun c hm=>?_⟩
 obtain⟨j,hj,rfl⟩:=List.mem_iff_getElem.1 hm
 obtain⟨f,hf1,hf2,hf3⟩:=hc j (by omega)
 obtain⟨i,hi,rfl⟩:=List.mem_iff_getElem.1 hf1
 have hi':i<fs.size:=by simpa using hi
 have h4:=h3 i fs[i] (by simp[hi'])
 have hx:xs[i]? = some (xs[i]'(by omega)):=List.getElem?_eq_getElem _
 rw[hx] at h4
 have hfe:fs.toList[i]=fs[i]:=by simp
 rw[hfe] at hf2 hf3
 obtain⟨h5,h6⟩:=hf fs[i] (by rw[← hfe];exact List.getElem_mem hi) _ _ _ h4
 refine h6 _ ?_
 rw[List.mem_iff_getElem]
 refine⟨j-fs[i].offset,by rw[h5];omega,?_⟩
 rw[List.getElem_take,List.getElem_drop]
 congr 1;omega
theorem zN{cs:List Value}(h:∀c∈cs,∃z,c= .int .i64 z):∃l:List Int,cs=l.map (.int .i64):=by
 induction cs with
 | nil=>exact⟨[],rfl⟩
 | cons c cs ih=>
  obtain⟨z,rfl⟩:=h c (by simp)
  obtain⟨l,rfl⟩:=ih fun c hc=>h c (by simp[hc])
  exact⟨z::l,rfl⟩
theorem VRs.ints{K:Kr}{n:Nat}(l:List Int):VRs K n (l.map (AV.int .i64)) (l.map (Value.int .i64)):=
 ⟨by simp,fun i h h'=>by simp;exact .int _ _⟩
def bf(H:Type)(enc:TypeId×Value→H)(P:Program)(W:World)(t:TypeId){α:Type}(g:α→List AV)(D:α→DataW H→Prop):Prop:=
 ∀n cs x,DataW.trod enc P W 0 (fun _=>true) true n t cs=some x→∃a,VRs (eU W) 0 (g a) cs∧(∀c∈cs,c.oneCell'=true)∧D a x.1
theorem rf{t:TypeId}(ht:P.underlying t=some (.int .i64)):bf H enc P W t (fun n:Int=>[AV.int .i64 n]) (fun n d=>d= .lit (.int .i64 n)∧(Lit.int .i64 n).wf=true):=fun n cs x h=>by
 obtain⟨z,rfl,rfl,hw⟩:=DataW.trod_int ht h
 exact⟨z,VRs.ints [z],by simp;rfl,rfl,hw⟩
theorem lA{t:TypeId}{m:Nat}(h:gn H enc P W t)(hc:P.cellsOf t=m):bf H enc P W t (fun l:List Int=>l.map (AV.int .i64)) (fun l _=>l.length=m):=fun n cs x hx=>by
 obtain⟨h1,h2⟩:=h n cs x hx
 obtain⟨l,rfl⟩:=zN h2
 exact⟨l,VRs.ints l,fun c hc=>by obtain⟨z,_,rfl⟩:=List.mem_map.1 hc;rfl,by rw[← hc,← h1];simp⟩
theorem bf.mono{t:TypeId}{α β:Type}{g:α→List AV}{g':β→List AV}{D:α→DataW H→Prop}{D':β→DataW H→Prop}(h:bf H enc P W t g D)(hm:∀a d,D a d→∃b,g' b=g a∧D' b d):bf H enc P W t g' D':=fun n cs x hx=>by
 obtain⟨a,h1,h2,h3⟩:=h n cs x hx
 obtain⟨b,e,h4⟩:=hm a _ h3
 exact⟨b,by rw[e];exact h1,h2,h4⟩
theorem lL{β:Type}{p:Nat→β→Prop}:∀n,(∀i,i<n→∃b,p i b)→∃l:List β,l.length=n∧∀i (h:i<l.length),p i l[i]
 | 0,_=>⟨[],rfl,fun i h=>by simp at h⟩
 | n+1,h=>by
  obtain⟨l,h1,h2⟩:=lL n fun i hi=>h i (by omega)
  obtain⟨b,hb⟩:=h n (by omega)
  refine⟨l++[b],by simp[h1],fun i hi=>?_⟩
  rw[List.getElem_append]
  split
  ·exact h2 i (by assumption)
  ·simp only[List.length_append,List.length_cons,List.length_nil] at hi
   have:i=n:=by omega
   subst this;simpa using hb
def oT{H:Type}{α:Type}(l:List α)(d:DataW H):Prop:=(d= .nil∧l=[])∨∃els sp,d= .slice els sp∧els.length=l.length
theorem iG{t e:TypeId}{α:Type}{g:α→AV}{D:α→DataW H→Prop}{sz:Nat}(ht:P.underlying t=some (.slice e))(hc:P.cellsOf e=sz)(hz:0<sz)(he:bf H enc P W e (fun a=>(g a).cells) D) :
  bf H enc P W t (fun l:List α=>[AV.list .no sz (l.map g)]) oT:=fun n cs x h=>by
 rcases DataW.trod_slice ht h with⟨rfl,rfl⟩ | ⟨a,len,cap,elems,rest,m,rfl,rfl,rfl,hb,hl,hm,hlen,hel,_⟩
 ·refine⟨[],⟨rfl,fun i h1 h2=>?_⟩,by simp;rfl,.inl ⟨rfl,rfl⟩⟩
  have:i=0:=by simpa using h1
  subst this
  exact .list .no sz [] none 0 (fun _ _=>undef) (Nat.le_refl _) trivial (fun h=>absurd rfl h) (fun i hi=>by simp at hi) (fun i j hi=>by simp at hi) (fun i j hi=>by simp at hi)
 ·rw[hc] at hel
  have each:∀i,i<len→∃q:α×List Value,(W.cells? 0 (a.add (i*sz)) sz)=some q.2∧VRs (eU W) 0 (g q.1).cells q.2∧(∀c∈q.2,c.oneCell'=true):=fun i hi=>by
   have h1:=hel i hi
   rw[List.getElem?_eq_getElem (by omega)] at h1
   obtain⟨c,h2,h3⟩:=Option.bind_eq_some_iff.1 h1
   obtain⟨b,h4,h5,_⟩:=he _ _ _ h3
   exact⟨(b,c),h2,h4,h5⟩
  obtain⟨l,hl1,hl2⟩:=lL len each
  have hcell:∀i (hi:i<l.length),l[i].2.length=sz∧∀j (hj:j<l[i].2.length),W.cell? ((a.add (i*sz)).add j)=some l[i].2[j]:=fun i hi=>by
   have h1:=(hl2 i hi).1
   unfold World.cells? at h1
   rw[if_pos (Nat.zero_le _)] at h1
   have h2:=mapM_some_length h1
   refine⟨by rw[h2];simp,fun j hj=>?_⟩
   have hjs:j<sz:=by
    have:l[i].2.length=sz:=by simpa using h2
    omega
   have h3:=mapM_some_get h1 j j (by simp[hjs])
   rw[h3];exact List.getElem?_eq_getElem hj
  have hlens:∀i (hi:i<l.length),l[i].2.length=sz:=fun i hi=>(hcell i hi).1
  have hadr:0<l.length→∃b o,a=⟨b,o,none⟩:=fun hp=>by
   have h1:=(hcell 0 hp).2 0 (by rw[hlens 0 hp];exact hz)
   have e:(a.add (0*sz)).add 0=a:=by simp[Addr.add]
   rw[e] at h1
   obtain⟨b,o,s⟩:=a
   cases s with
   | none=>exact⟨b,o,rfl⟩
   | some s=>
    simp only[World.cell?,Option.isSome_some,if_true] at h1
    split at h1<;> cases h1
  refine⟨l.map (·.1),⟨rfl,fun i h1 h2=>?_⟩,by simp;rfl,.inr ⟨_,_,rfl,by simp;omega⟩⟩
  have:i=0:=by simpa using h1
  subst this
  have key:VR (eU W) 0 (.list .no sz ((l.map (·.1)).map g)) (.slice (some a) ((l.map (·.1)).map g).length cap):=by
   refine .list .no sz _ (some a) cap (fun i j=>if h:i<l.length then(l[i].2).getD j undef else undef) (by simp;omega) trivial (fun hne=>?_) (fun i hi=>?_) (fun i j hi hj=>?_) (fun i j hi hj=>?_)
   ·have hp:0<l.length:=by
     cases l with
     | nil=>simp at hne
     | cons _ _=>simp
    obtain⟨b,o,rfl⟩:=hadr hp
    refine⟨b,o,rfl,fun i j hi hj=>?_⟩
    have hi':i<l.length:=by simpa using hi
    have h5:=(hcell i hi').2 j (by rw[hlens i hi'];exact hj)
    show W.cell? ⟨b,o+(i*sz+j),none⟩= _
    have e:((⟨b,o,none⟩: Addr).add (i*sz)).add j=⟨b,o+(i*sz+j),none⟩:=by
     unfold Addr.add
     split<;> split<;> simp_all<;> omega
    rw[e] at h5
    rw[h5,dif_pos hi']
    simp[List.getD,List.getElem?_eq_getElem (show j<l[i].2.length by rw[hlens i hi'];exact hj)]
   ·have hi':i<l.length:=by simpa using hi
    have:=(hl2 i hi').2.1.1
    simp only[List.getElem_map]
    rw[this];exact hlens i hi'
   ·have hi':i<l.length:=by simpa using hi
    have hj':j<l[i].2.length:=by rw[hlens i hi'];exact hj
    simp only[dif_pos hi',List.getD,List.getElem?_eq_getElem hj',Option.getD_some]
    exact(hl2 i hi').2.2 _ (List.getElem_mem hj')
   ·have hi':i<l.length:=by simpa using hi
    have hv:=(hl2 i hi').2.1
    simp only[List.getElem_map] at hj⊢
    have hj':j<l[i].2.length:=by rw[← hv.1];exact hj
    simp only[dif_pos hi',List.getD,List.getElem?_eq_getElem hj',Option.getD_some]
    exact hv.2 j hj hj'
  simpa[hl1,hlen] using key
theorem F9{t e:TypeId}{α:Type}{g:α→AV}{sz:Nat}{r:Reach}{b0:Nat}{v:Value}{d:DataW H}{ps:List MemPlace}(ht:P.underlying t=some (.slice e))(hval:Value.okWide P W r b0 t v)
  (hr:bf H enc P W t (fun l:List α=>[AV.list .no sz (l.map g)]) oT) (hd:DataW.Trod enc P W 0 (fun _=>true) true t v d ps):∃l:List α,VR (eU W) 0 (.list .no sz (l.map g)) v∧oT l d:=by
 obtain⟨a,len,cap,rfl⟩:=okWide_slice ht hval
 obtain⟨n,hn⟩:=hd
 obtain⟨l,h1,_,h3⟩:=hr _ _ _ hn
 exact⟨l,h1.2 0 (by simp) (by simp[Value.cells]),h3⟩
theorem B7{t:TypeId}{r:Reach}{b0:Nat}{v:Value}{d:DataW H}{ps:List MemPlace}(ht:P.underlying t=some (.int .i64))(hval:Value.okWide P W r b0 t v)
  (hd:DataW.Trod enc P W 0 (fun _=>true) true t v d ps):∃n,VR (eU W) 0 (.int .i64 n) v∧(-9223372036854775808≤n∧n≤9223372036854775807):=by
 obtain⟨n,rfl,_,_,hw⟩:=open_int ht hval hd
 exact⟨n,.int _ _,by simpa[Lit.wf,IntKind.min,IntKind.max,IntKind.signed,IntKind.bits] using hw⟩
theorem uv{t:TypeId}{fs:Array Field}{α:Type}{g:α→List AV}{D:α→DataW H→Prop}{r:Reach}{b0:Nat}{v:Value}{d:DataW H}{ps:List MemPlace}(ht:P.underlying t=some (.struct fs))(hval:Value.okWide P W r b0 t v)
  (hr:bf H enc P W t g D) (hd:DataW.Trod enc P W 0 (fun _=>true) true t v d ps):∃a,VR (eU W) 0 (.agg (g a)) v∧D a d:=by
 obtain⟨cs,rfl,_⟩:=okWide_struct ht hval
 obtain⟨n,hn⟩:=hd
 obtain⟨a,h1,h2,h3⟩:=hr _ _ _ hn
 exact⟨a,h1.agg h2,h3⟩
end
end Go.Mu
