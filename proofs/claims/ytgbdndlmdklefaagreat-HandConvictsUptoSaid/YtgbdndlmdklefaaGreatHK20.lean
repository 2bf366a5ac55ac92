/- Texts of a proof: lemmas. -/
import Derived.Test.YtgbdndlmdklefaaGreatHK19
set_option linter.unusedSimpArgs false
set_option linter.unusedVariables false
set_option maxRecDepth 100000
set_option maxHeartbeats 40000000
namespace Go.Proofs
open Go Go.Mu Go.Conc
section
variable {xs:List Tn}{hands skill mn mx:Int}{sets:AV}{f:Nat→List Int×Int}
theorem J6{n:Nat}{D:List Nat}{all:List AV}{at_ e1:Int}(h:gO n f D all at_ e1)(hp:D.Perm (List.range n)) :
  all=(List.range n).map (fun k=>ar (f k).1)∧(∀k,k<n→(f k).2≠0→at_≤k)∧((at_=n∧e1=0)∨∃k,k<n∧at_=k∧(f k).2≠0∧e1=(f k).2):=by
 have hm:∀k,k∈D↔k<n:=fun k=>by rw[hp.mem_iff,List.mem_range]
 refine⟨?_,fun k hk he=>h.low k ((hm k).2 hk) he,h.one.imp id fun⟨k,h1,h2⟩=>⟨k,(hm k).1 h1,h2⟩⟩
 apply List.ext_getElem?
 intro k
 by_cases hk:k<n
 ·rw[h.get k hk,if_pos ((hm k).2 hk)]
  simp[hk]
 ·rw[List.getElem?_eq_none (by rw[h.len];omega),List.getElem?_eq_none (by simp;omega)]
theorem _root_.Go.Mu.Plain.TM{sz:Nat}:Plain (.list .full sz []):=fun m=> .list _ _ _ (fun id e=>by cases e) fun i j hi=>by simp at hi
structure Tz(c:Nat)(V:Nat→Prop)(K:Kr)(w:World)(V':Nat→Prop)(K':Kr)(σ':List aa)(w':World):Prop where
 ext:∀b o v,K.S b o=some v→K'.S b o=some v
 size:w.heap.size≤w'.heap.size
 keep:∀b:Nat,b<w.heap.size→V b→b≠c→w'.heap[b]? = w.heap[b]?∧bj K' σ' b∧∀o,K'.S b o=K.S b o
 sub:∀b,V b→V' b
 new:∀b,V' b→V b∨w.heap.size≤b
 os:w'.os=w.os
 tape:w'.tape=w.tape
 output:w'.output=w.output
theorem D7{c:Nat}{b:Frame}{cs:List Frame}{ds:List Deferred}{K2:Kr}{w2:World}{V2:Nat→Prop}{a2:Act}(hlen:xs.length≤1048576)(hsets:Plain sets)
  (hchk:∀(V₀:Nat→Prop) (i:Nat) (hi:i<xs.length) (Q:AV→List aa→Prop),(∀σ',Q (.tup [ar (f i).1,.int .i64 (f i).2]) σ')→ao (fun M=>M=Co Tryz.prog V₀) 117 [xs[i].av,.int .i64 hands] [] Q)
  {Q:AV→List aa→Prop} (hQ:∀(at_ e1:Int) σ',(∀k,k<xs.length→(f k).2≠0→at_≤k)→((at_=xs.length∧e1=0)∨∃k,k<xs.length∧at_=k∧(f k).2≠0∧e1=(f k).2)→Q (.tup [.list .no 1 ((List.range xs.length).map fun k=>ar (f k).1),.int .i64 e1]) σ')
  (hR:R K2 [] w2) (hO:aU (fun _=>False) V2 K2 [] w2) (hF:FR K2 0 61 ⟨Tryz.bp,[],sl1 hands skill mn mx sets xs c 0⟩ a2.tmps) (hd:a2.defers=ds) (hc:w2.heap[c]? = some (.chan xs.length #[] false 0 0 false)) (hVc:V2 c) (hb:b.roundOf=none)
  {au:Goroutine→World→(Nat→Prop)→Prop} (hP:∀K3 σ3 w5 V3 g' w' V',Tz c V2 K2 w2 V3 K3 σ3 w5→ju (Bes Tryz.prog) 61 (dg (Tryz.E (S:=aV) 61 Tryz.bg fs0) Tryz.f147.results.toList Q) K3 σ3 w5 V3 ds b cs g' w' V'→au g' w' V') :
  JB Tryz.prog (G (b.atR a2 (.code (bW Tryz.f147 3):: .inLoop (bW Tryz.f147 3):: .inBlock 0::[.code qt])) cs) w2 V2 au:=by
 have hclt:=(Array.getElem?_eq_some_iff.1 hc).1
 let V₀:Nat→Prop:=fun q=>V2 q∧q<w2.heap.size∧q≠c
 have hne:∀q p u,K2.S q p=some u→q≠c:=fun q p u hu e=>by
  subst e
  have:=hR.stab q p u hu
  simp[World.cell?,hc] at this
 have hlay:∀g cs,gx g=some cs→g<w2.heap.size∧g≠c:=fun g cs hg=>by
  obtain⟨⟨E,fz,h1⟩,_⟩:=hR.lay g cs hg
  refine⟨(Array.getElem?_eq_some_iff.1 h1).1,fun e=>?_⟩
  subst e;rw[hc] at h1;cases h1
 have hO2:aU V₀ V₀ K2 [] w2:=⟨fun q hq=>absurd bj.none hq,fun q p u hu=>⟨hO.stab q p u hu,hR.nC hu,hne q p u hu⟩,fun g cs hg=>⟨hO.lay g cs hg,hlay g cs hg⟩,fun q hq=>hq.2.1⟩
 obtain⟨v1,t1,k1⟩:=hF.2 1 _ (show(if Tryz.bp 1=true then ae (sl1 hands skill mn mx sets xs c 0) 1 else _)=_ from rfl)
 obtain⟨v4,t4,k4⟩:=hF.2 4 _ (show(if Tryz.bp 4=true then ae (sl1 hands skill mn mx sets xs c 0) 4 else _)=_ from rfl)
 obtain⟨v15,t15,k15⟩:=hF.2 15 _ (show(if Tryz.bp 15=true then ae (sl1 hands skill mn mx sets xs c 0) 15 else _)=_ from rfl)
 let PostC:Nat→List Nat→Goroutine→World→(Nat→Prop)→Prop:=fun s D g' w' V'=>s=xs.length∧D.length=xs.length∧∃(all:List AV) (at_ e1:Int) (vs:AV) (K':Kr) (a':Act),gO xs.length f D all at_ e1∧g'=G (b.atR a' [.code (bx kU)]) cs∧
  R K' [.vec 1 all,.cells [.int .i64 at_,vs,.int .i64 e1]] w'∧aU V₀ V' K' [.vec 1 all,.cells [.int .i64 at_,vs,.int .i64 e1]] w'∧FR K' 2 61 ⟨Tryz.bp,[],sl2 c xs.length xs.length⟩ a'.tmps∧
  aI V₀ K2 [] w2 V' K' [.vec 1 all,.cells [.int .i64 at_,vs,.int .i64 e1]] w'∧a'.defers=ds
 refine JB.crowd (C:=Crn V₀ K2 w2.heap.size c xs.length f) (V₀:=V₀) (PostC:=PostC) (fun w₀ hr=>?_) (fun q hq=>hq) ?_ ?_
 ·exact(hr.keep c hclt hVc).trans hc
 ·refine spawn (f:=f) (c:=c) (V₀:=V₀) (K2:=K2) (w2:=w2) (v1:=v1) (v4:=v4) (v15:=v15) (by omega) hsets hR hO2 (fun q hq=>hq.2.1) (hchk V₀) k1 k4 k15 (kk:=[.code qt]) ?_ xs.length 0 (by omega) w2 a2 (.refl _ _ _ _) hF hd (by
   intro p hp
   simp only[List.mem_cons,List.not_mem_nil,or_false] at hp
   rcases hp with rfl | rfl | rfl
   ·exact t1
   ·exact t4
   ·exact t15)
  refine JK.UY (Ke hlen hsets ?_)
  refine BV (n:=xs.length) hlen (fun q hq=>hq.2.1) (fun D all at_ e1 vs hD hG hvs=>?_) xs.length 0 (by omega) [] _ _ _ _ rfl gO.start (.TM)
  intro K w V a hR' hO' hF' hS' hd' _
  exact JC.ret ⟨rfl,rfl,JC.ret ⟨rfl,hD,all,at_,e1,vs,K,a,hG,rfl,hR',hO',hF',hS',hd'⟩⟩
 ·rintro s D g' w' V' ⟨rfl,hD,all,at_,e1,vs,K',a',hG,rfl,r1,r2,r3,r4,r5⟩
  refine⟨hD,fun w₁ hr hc1 hp=>?_⟩
  obtain⟨ga,gb,gc⟩:=J6 hG hp
  refine⟨fun q=>V2 q∨w2.heap.size≤q,?_⟩
  have hV'c:∀q,V' q→q≠c:=fun q hq e=>by
   subst e
   rcases r4.new _ hq with h | h
   ·exact h.2.2 rfl
   ·omega
  have hsub:∀q,V' q→V2 q∨w2.heap.size≤q:=fun q hq=>(r4.new q hq).imp (fun h=>h.1) id
  have hR1:=r1.rely r2 hr
  have hO1:aU (fun _=>False) (fun q=>V2 q∨w2.heap.size≤q) K' [.vec 1 all,.cells [.int .i64 at_,vs,.int .i64 e1]] w₁:=
   ⟨fun q hq=>⟨hsub q (r2.obj q hq).1,fun h=>h⟩,fun q o u hu=>hsub q (r2.stab q o u hu),fun g cs hg=> .inl (hO.lay g cs hg),fun q hq=>hq.elim⟩
  have hfc:bj K' [.vec 1 all,.cells [.int .i64 at_,vs,.int .i64 e1]] c:=Classical.byContradiction fun h=>hV'c c (r2.obj c h).1 rfl
  refine BC hG.len (Q:=Q) (fun σ'=>?_) hR1 hO1 r3 r5 hc1 (.inl hVc) hfc hb fun K3 w4 V3 g' w'' V'' hS hE=>hP K3 _ _ V3 g' w'' V'' ?_ hE
  ·rw[ga];exact hQ at_ e1 σ' gb gc
  ·have hsz:w2.heap.size≤w₁.heap.size:=Nat.le_trans r4.size hr.size
   refine⟨fun q o v hv=>hS.ext.S q o v (r4.ext.S q o v hv),by simpa using Nat.le_trans hsz hS.size,fun q hq hv hne=>?_,fun q hq=>hS.sub q (.inl hq),fun q hq=>?_,hS.os.trans (hr.os.trans r4.os),hS.tape.trans (hr.tape.trans r4.tape),hS.output.trans (hr.output.trans r4.output)⟩
   ·obtain⟨m1,m2,m3⟩:=r4.keep q hq ⟨hv,hq,hne⟩ bj.none
    obtain⟨n1,n2,n3⟩:=hS.keep q (Nat.lt_of_lt_of_le hq hsz) (.inl hv) m2
    refine⟨?_,n2,fun o=>(n3 o).trans (m3 o)⟩
    show(w4.heap.setIfInBounds c _)[q]? = _
    rw[Array.getElem?_setIfInBounds_ne (Ne.symm hne),n1,hr.keep q (Nat.lt_of_lt_of_le hq r4.size) (r4.sub q ⟨hv,hq,hne⟩),m1]
   ·rcases hS.new q hq with h | h
    ·exact h
    ·exact .inr (Nat.le_trans hsz h)
theorem xX(hlen:xs.length≤1048576)(hsets:Plain sets)
  (hchk:∀(V₀:Nat→Prop) (i:Nat) (hi:i<xs.length) (Q:AV→List aa→Prop),(∀σ',Q (.tup [ar (f i).1,.int .i64 (f i).2]) σ')→ao (fun M=>M=Co Tryz.prog V₀) 117 [xs[i].av,.int .i64 hands] [] Q)
  {Q:AV→List aa→Prop} (hQ:∀(at_ e1:Int) σ',(∀k,k<xs.length→(f k).2≠0→at_≤k)→((at_=xs.length∧e1=0)∨∃k,k<xs.length∧at_=k∧(f k).2≠0∧e1=(f k).2)→Q (.tup [.list .no 1 ((List.range xs.length).map fun k=>ar (f k).1),.int .i64 e1]) σ') :
  aj (Tryz.E (S:=aV) 61 Tryz.bg fs0) none [.code vG] ⟨Tryz.bp,[],[(0,.agg [.int .i64 hands,.int .i64 skill,.int .i64 mn,.int .i64 mx,sets,.list .no 6 (xs.map Tn.av)])]⟩ [] (dg (Tryz.E (S:=aV) 61 Tryz.bg fs0) Tryz.f147.results.toList Q):=by
 intro M hM K w V a b cs hb hR hO hF
 have hM':M=Bes Tryz.prog:=hM
 subst hM'
 have hE:=(Tryz.ah (S:=aV) 61 Tryz.bg fs0 aD)
 have hRC:∀x∈[AV.int .i64 hands,.int .i64 skill,.int .i64 mn,.int .i64 mx,sets,.list .no 6 (xs.map Tn.av)],Plain x:=by
  simp only[List.mem_cons,List.not_mem_nil,or_false,forall_eq_or_imp,forall_eq]
  exact⟨.int,.int,.int,.int,hsets,ky xs⟩
 obtain⟨au,hPost⟩:∃X,X=ju (Bes Tryz.prog) 61 (dg (Tryz.E (S:=aV) 61 Tryz.bg fs0) Tryz.f147.results.toList Q) K [] w V a.defers b cs:=⟨_,rfl⟩
 have walk:JK (Tryz.E (S:=aV) 61 Tryz.bg fs0) (Bes Tryz.prog) b cs a.defers [] V K [] w au [.code vG] ⟨Tryz.bp,[],[(0,.agg [.int .i64 hands,.int .i64 skill,.int .i64 mn,.int .i64 mx,sets,.list .no 6 (xs.map Tn.av)])]⟩ []:=by
  refine JK.seq (x:= .region 0 _ false) ?_
  refine JK.region hE rfl .nil ?_
  simp -implicitDefEqProofs (maxSteps:=9^9) (disch:=omega) only[go_sem,simprocAttr]
  refine JK.iU 1 (by rfl) (by rfl) (by rfl) ?_
  refine JK.ay (sl':=[(1,.eptr [.int .i64 hands,.int .i64 skill,.int .i64 mn,.int .i64 mx,sets,.list .no 6 (xs.map Tn.av)] 0)]) (by simp[ae,ins]) ?_
  refine JK.forget (fun p hp=>?_) ?_
  ·simp only[List.mem_cons,List.not_mem_nil,or_false] at hp
   subst hp
   exact fj hRC 0
  refine JK.seq (x:= .region 1 _ false) ?_
  refine JK.first hE rfl 3 [3,4,5] rfl (by decide) .nil ?_
  simp only[List.take_succ_cons,List.take_zero]
  simp -implicitDefEqProofs (maxSteps:=9^9) (disch:=omega) only[go_sem,simprocAttr]
  obtain⟨inf,hinf,_,hby,_⟩:=(tk (i:=Tryz.EU) Tryz.underlying236 ⟨_,rfl,rfl⟩).info
  have hbb:(inf.bytes:Int)*xs.length≤281474976710544:=by
   have hby':(inf.bytes:Int)=40:=by rw[hby];rfl
   rw[hby'];omega
  refine JK.makeChan (n:=xs.length) rfl (show(13:Nat)<61 by decide) (by simp) rfl Tryz.underlying234 hinf (by omega) hbb fun c K1 w1 V1 hc1 hVc1 hcw hR1 hO1 hS1 hf1=>?_
  refine JK.last hE rfl 4 [4,5] rfl .nil ?_
  simp only[List.drop_succ_cons,List.drop_zero,Fr.put]
  simp -implicitDefEqProofs (maxSteps:=9^9) (disch:=omega) only[go_sem,simprocAttr,AV.flat,AV.cells,ai,ax,List.getElem?_cons_zero,List.getElem?_cons_succ,List.length_cons,List.length_nil,List.set_cons_zero,List.set_cons_succ,List.cons_append,List.nil_append]
  refine JK.iU 4 (by rfl) (by rfl) (by rfl) ?_
  refine JK.forget (fun p hp=>?_) ?_
  ·simp only[ins,List.mem_cons,List.not_mem_nil,or_false] at hp
   have hp':p=(1,.eptr [.int .i64 hands,.int .i64 skill,.int .i64 mn,.int .i64 mx,sets,.list .no 6 (xs.map Tn.av)] 0)∨p=(4,.eptr [.chan (some c)] 0):=by simpa using hp
   rcases hp' with rfl | rfl
   ·exact fj hRC 0
   ·exact fj (by simp only[List.mem_cons,List.not_mem_nil,or_false,forall_eq];exact nO) 0
  refine JK.seq (x:= .seq (.region 2 _ false) (.block 0 (.loop _))) (JK.seq ?_)
  refine JK.region hE rfl .nil ?_
  simp only[ins]
  simp -implicitDefEqProofs (maxSteps:=9^9) (disch:=omega) only[go_sem,simprocAttr]
  refine JK.block (JK.loop ?_)
  refine JK.ay (sl':=sl1 hands skill mn mx sets xs c 0) (by simp[sl1,ae]) ?_
  intro K2 w2 V2 a2 hR2 hO2 hF2 hS2 hd2 _
  have hc1lt:=(Array.getElem?_eq_some_iff.1 hc1).1
  have hck:=(hS2.keep c hc1lt hVc1 hf1).1
  refine D7 (f:=f) hlen hsets hchk hQ hR2 hO2 hF2 hd2 (hck.trans hc1) (hS2.sub c hVc1) hb fun K3 σ3 w5 V3 g' w' V' hC hE=>?_
  rw[hPost]
  have hS12:=hS1.trans hS2
  refine ju.before hE ⟨⟨fun r hr=>absurd hr (Nat.not_lt_zero r),fun r hr=>absurd hr (Nat.not_lt_zero r),fun q o v hv=>hC.ext q o v (hS12.ext.S q o v hv)⟩,Nat.zero_le _,Nat.le_trans hS12.size hC.size,fun q hq hv hf=>?_,fun q hq=>hC.sub q (hS12.sub q hq),fun q hq=>?_,hC.os.trans hS12.os,hC.tape.trans hS12.tape,hC.output.trans hS12.output⟩
  ·obtain⟨m1,m2,m3⟩:=hS12.keep q hq hv hf
   obtain⟨n1,n2,n3⟩:=hC.keep q (Nat.lt_of_lt_of_le hq hS12.size) (hS12.sub q hv) (by omega)
   exact⟨n1.trans m1,n2,fun o=>(n3 o).trans (m3 o)⟩
  ·rcases hC.new q hq with h | h
   ·exact hS12.new q h
   ·exact .inr (Nat.le_trans hS12.size h)
 have J:=walk K w V a hR hO hF (.refl _ _ _ _) rfl (by simp)
 rw[hPost] at J
 exact J
theorem IM(hlen:xs.length≤1048576)(hsets:Plain sets)
  (hchk:∀(V₀:Nat→Prop) (i:Nat) (hi:i<xs.length) (Q:AV→List aa→Prop),(∀σ',Q (.tup [ar (f i).1,.int .i64 (f i).2]) σ')→ao (fun M=>M=Co Tryz.prog V₀) 117 [xs[i].av,.int .i64 hands] [] Q)
  {Q:AV→List aa→Prop} (hQ:∀(at_ e1:Int) σ',(∀k,k<xs.length→(f k).2≠0→at_≤k)→((at_=xs.length∧e1=0)∨∃k,k<xs.length∧at_=k∧(f k).2≠0∧e1=(f k).2)→Q (.tup [.list .no 1 ((List.range xs.length).map fun k=>ar (f k).1),.int .i64 e1]) σ') :
  ao aV 147 [.agg [.int .i64 hands,.int .i64 skill,.int .i64 mn,.int .i64 mx,sets,.list .no 6 (xs.map Tn.av)]] [] Q:=by
 refine ao.of_run (Tryz.ah (S:=aV) 61 Tryz.bg fs0 aD) Tryz.bp Tryz.func147 rfl (by kernel_rfl) (show 1≤61 by decide) (aW.of Tryz.func147 (by kernel_rfl) (by kernel_rfl)) ((xX hlen hsets hchk hQ).mono fun j fr σ' ⟨h1,h2⟩=>⟨h1,?_⟩)
 cases hr:ig (Tryz.E (S:=aV) 61 Tryz.bg fs0) fr σ' Tryz.f147.results.toList with
 | none=>rw[hr] at h2;exact h2.elim
 | some vs=>rw[hr] at h2;exact⟨vs,rfl,h2⟩
end
end Go.Proofs
