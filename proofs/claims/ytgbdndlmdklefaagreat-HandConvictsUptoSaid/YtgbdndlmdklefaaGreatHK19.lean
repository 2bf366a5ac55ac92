/- Texts of a proof: lemmas. -/
import Derived.Test.YtgbdndlmdklefaaGreatHK17
import Derived.Test.YtgbdndlmdklefaaGreatHK18
set_option linter.unusedSimpArgs false
set_option linter.unusedVariables false
set_option maxRecDepth 100000
set_option maxHeartbeats 40000000
namespace Go.Proofs
open Go Go.Mu Go.Conc
def n9:Code→Code | .seq x _=>x | c=>c
def bx:Code→Code | .seq _ y=>y | c=>c
noncomputable def vG:Code:=Tryz.f147.body.getD .skip
def mX:Code→Code | .block _ x=>x | x=>x
def qh:Code→Array Oper | .region _ o _=>o | _=>#[]
noncomputable def qt:Code:=bx (bx (bx vG))
noncomputable def Crn (V₀:Nat→Prop) (K2:Kr) (n₁ c n:Nat) (f:Nat→List Int×Int):Crw:=⟨Tryz.prog,V₀,c,n,false,fun k=>J4 V₀ K2 n₁ (f k) k⟩
noncomputable def CmH (V₀:Nat→Prop) (K2:Kr) (n₁ c n:Nat) (f:Nat→List Int×Int) (s:Nat) (D:List Nat):cw Tryz.prog:=Cm (Crn V₀ K2 n₁ c n f) s D
def SCm(V₀:Nat→Prop)(K2:Kr)(n₁ c n:Nat)(f:Nat→List Int×Int):MC Tryz.prog:=fun M=>∃s D,M=CmH V₀ K2 n₁ c n f s D
instance : Inhabited Tn:=⟨⟨0,0,0,default⟩⟩
section
variable {xs:List Tn}{hands skill mn mx:Int}{sets:AV}{f:Nat→List Int×Int}{c:Nat}{b:Frame}{cs:List Frame}{ds:List Deferred}{V₀:Nat→Prop}{K2:Kr}{w2:World}{PostC:Nat→List Nat→Goroutine→World→(Nat→Prop)→Prop}{v1 v4 v15:Value}
def sl1(hands skill mn mx:Int)(sets:AV)(xs:List Tn)(c:Nat)(i:Nat):List (Nat×AV):=
 [(1,.eptr [.int .i64 hands,.int .i64 skill,.int .i64 mn,.int .i64 mx,sets,.list .no 6 (xs.map Tn.av)] 0),(4,.eptr [.chan (some c)] 0),(15,.list .no 6 (xs.map Tn.av)),(16,.int .i64 xs.length),(17,.int .i64 i)]
theorem fj{l:List AV}{off:Nat}(h:∀x∈l,Plain x):Plain (.eptr l off):=fun n=> .eptr _ _ fun j hj=>h _ (List.getElem_mem hj) n
theorem nO{c:Option Nat}:Plain (.chan c):=fun n=> .chan c
theorem Tn.yG(x:Tn):∀c∈x.cells,Plain c:=by
 simp only[Tn.cells,List.mem_cons,List.not_mem_nil,or_false,forall_eq_or_imp,forall_eq]
 exact⟨.int,.int,.int,.int,.map fun y _=>y.plain,.map fun y _=>y.plain⟩
theorem ky(l:List Tn):Plain (.list .no 6 (l.map Tn.av)):= .map fun y _=> .agg y.yG
theorem wB(hsets:Plain sets){i:Nat}:∀p∈sl1 hands skill mn mx sets xs c i,Plain p.2:=by
 simp only[sl1,List.mem_cons,List.not_mem_nil,or_false,forall_eq_or_imp,forall_eq]
 refine⟨fj ?_,fj ?_,ky xs,.int,.int⟩
 ·simp only[List.mem_cons,List.not_mem_nil,or_false,forall_eq_or_imp,forall_eq]
  exact⟨.int,.int,.int,.int,hsets,ky xs⟩
 ·simp only[List.mem_cons,List.not_mem_nil,or_false,forall_eq]
  exact nO
theorem wo{s:Nat}{D:List Nat}(hlen:xs.length≤4294967296){i:Nat}(hi:i≤xs.length){au:Goroutine→World→(Nat→Prop)→Prop}{kk:List Item}
  (h1:i<xs.length→JK (Tryz.E (S:=SCm V₀ K2 w2.heap.size c xs.length f) 61 Tryz.bg fs0) (CmH V₀ K2 w2.heap.size c xs.length f s D) b cs ds [(1,v1),(4,v4),(15,v15)] V₀ K2 [] w2 au (.code (bx (bx (bW Tryz.f147 3))):: .inLoop (bW Tryz.f147 3):: .inBlock 0::kk) ⟨Tryz.bp,[],sl1 hands skill mn mx sets xs c i++[(18,.bool true)]⟩ [])
  (h2:i=xs.length→JK (Tryz.E (S:=SCm V₀ K2 w2.heap.size c xs.length f) 61 Tryz.bg fs0) (CmH V₀ K2 w2.heap.size c xs.length f s D) b cs ds [(1,v1),(4,v4),(15,v15)] V₀ K2 [] w2 au kk ⟨Tryz.bp,[],sl1 hands skill mn mx sets xs c i++[(18,.bool false)]⟩ []) :
  JK (Tryz.E (S:=SCm V₀ K2 w2.heap.size c xs.length f) 61 Tryz.bg fs0) (CmH V₀ K2 w2.heap.size c xs.length f s D) b cs ds [(1,v1),(4,v4),(15,v15)] V₀ K2 [] w2 au (.code (bW Tryz.f147 3):: .inLoop (bW Tryz.f147 3):: .inBlock 0::kk) ⟨Tryz.bp,[],sl1 hands skill mn mx sets xs c i⟩ []:=by
 have hE:=(Tryz.ah (S:=SCm V₀ K2 w2.heap.size c xs.length f) 61 Tryz.bg fs0 aD)
 refine JK.seq (x:= .region 3 _ false) ?_
 refine JK.region hE ⟨s,D,rfl⟩ (by intro o ho e he p hp;simp at ho hp;subst ho;simp at he;subst he;rcases hp with rfl | rfl | rfl<;> simp) ?_
 simp only[sl1,List.cons_append,List.nil_append] at h1 h2⊢
 simp -implicitDefEqProofs (maxSteps:=9^9) (disch:=omega) only[go_sem,simprocAttr]
 refine⟨fun q=>?_,fun q=>?_⟩
 ·refine JK.seq (x:= .cond _ _ _) (JK.cond (t:=true) rfl ?_)
  rw[if_pos rfl]
  exact JK.skip (h1 (by omega))
 ·refine JK.seq (x:= .cond _ _ _) (JK.cond (t:=false) rfl ?_)
  rw[if_neg (by simp)]
  exact JK.exit rfl (h2 (by omega))
theorem Eg{s:Nat}{D:List Nat}(hlen:xs.length≤4294967296)(hsets:Plain sets){i:Nat}(hi:i<xs.length){au:Goroutine→World→(Nat→Prop)→Prop}{kk:List Item}
  (h:JK (Tryz.E (S:=SCm V₀ K2 w2.heap.size c xs.length f) 61 Tryz.bg fs0) (CmH V₀ K2 w2.heap.size c xs.length f s D) b cs ds [(1,v1),(4,v4),(15,v15)] V₀ K2 [] w2 au
   (.inRegion (qh (bx (mX (n9 (bx (bx (bW Tryz.f147 3))))))) [1]:: .inBlock 1:: .code (bx (bx (bx (bW Tryz.f147 3))))::kk)
   ⟨Tryz.bp,[(22,.fn (.func 193) [] [.eptr xs[i].cells 0,.eptr [.int .i64 hands,.int .i64 skill,.int .i64 mn,.int .i64 mx,sets,.list .no 6 (xs.map Tn.av)] 0,.eptr [.chan (some c)] 0,.eptr [.int .i64 i] 0])],sl1 hands skill mn mx sets xs c i++[(18,.bool true),(5,.eptr [.int .i64 i] 0),(6,.eptr xs[i].cells 0)]⟩ []) :
  JK (Tryz.E (S:=SCm V₀ K2 w2.heap.size c xs.length f) 61 Tryz.bg fs0) (CmH V₀ K2 w2.heap.size c xs.length f s D) b cs ds [(1,v1),(4,v4),(15,v15)] V₀ K2 [] w2 au (.code (bx (bx (bW Tryz.f147 3)))::kk) ⟨Tryz.bp,[],sl1 hands skill mn mx sets xs c i++[(18,.bool true)]⟩ []:=by
 have hE:=(Tryz.ah (S:=SCm V₀ K2 w2.heap.size c xs.length f) 61 Tryz.bg fs0 aD)
 have hxi:xs[i]? = some (xs[i]):=List.getElem?_eq_getElem hi
 refine JK.seq (x:= .block 1 (.seq (.region 4 _ false) (.region 5 _ false))) ?_
 refine JK.block ?_
 refine JK.seq ?_
 refine JK.region hE ⟨s,D,rfl⟩ (by intro o ho e he p hp;simp at ho hp;rcases ho with rfl | rfl | rfl | rfl | rfl | rfl | rfl<;> simp at he<;> subst he<;> rcases hp with rfl | rfl | rfl<;> simp) ?_
 simp only[sl1,List.cons_append,List.nil_append]
 simp -implicitDefEqProofs (maxSteps:=9^9) (disch:=omega) only[go_sem,simprocAttr,Tn.av,Tn.cells,ai,ax,List.getElem?_cons_zero,List.getElem?_cons_succ,List.length_cons,List.length_nil,List.set_cons_zero,List.set_cons_succ]
 refine JK.iU 5 (by rfl) (by rfl) (by rfl) ?_
 refine JK.iU 6 (by rfl) (by rfl) (by rfl) ?_
 refine JK.forget (fun p hp=>?_) ?_
 ·have h0:=wB (hands:=hands) (skill:=skill) (mn:=mn) (mx:=mx) (xs:=xs) (c:=c) (i:=i) hsets
  have h1:p∈sl1 hands skill mn mx sets xs c i++[(18,.bool true),(5,.eptr [.int .i64 i] 0),(6,.eptr xs[i].cells 0)]:=hp
  rw[List.mem_append] at h1
  rcases h1 with h1 | h1
  ·exact h0 p h1 0
  ·simp only[List.mem_cons,List.not_mem_nil,or_false] at h1
   rcases h1 with rfl | rfl | rfl
   ·exact .bool _
   ·exact fj (by simp only[List.mem_cons,List.not_mem_nil,or_false,forall_eq];exact .int) 0
   ·exact fj (xs[i]).yG 0
 refine JK.first hE ⟨s,D,rfl⟩ 1 [1] rfl (by decide) (by intro o ho e he p hp;simp at ho hp;rcases ho with rfl | rfl<;> simp at he<;> subst he<;> rcases hp with rfl | rfl | rfl<;> simp) ?_
 simp only[List.take_succ_cons,List.take_zero]
 simp -implicitDefEqProofs (maxSteps:=9^9) (disch:=omega) only[go_sem,simprocAttr]
 exact h
theorem IQ{s:Nat}{D:List Nat}(hlen:xs.length≤4294967296)(hsets:Plain sets){i:Nat}(hi:i<xs.length){au:Goroutine→World→(Nat→Prop)→Prop}{kk:List Item}
  (h:JK (Tryz.E (S:=SCm V₀ K2 w2.heap.size c xs.length f) 61 Tryz.bg fs0) (CmH V₀ K2 w2.heap.size c xs.length f s D) b cs ds [(1,v1),(4,v4),(15,v15)] V₀ K2 [] w2 au kk ⟨Tryz.bp,[],sl1 hands skill mn mx sets xs c (i+1)⟩ []) :
  JK (Tryz.E (S:=SCm V₀ K2 w2.heap.size c xs.length f) 61 Tryz.bg fs0) (CmH V₀ K2 w2.heap.size c xs.length f s D) b cs ds [(1,v1),(4,v4),(15,v15)] V₀ K2 [] w2 au
   (.inRegion (qh (bx (mX (n9 (bx (bx (bW Tryz.f147 3))))))) []:: .inBlock 1:: .code (bx (bx (bx (bW Tryz.f147 3))))::kk) ⟨Tryz.bp,[],sl1 hands skill mn mx sets xs c i⟩ []:=by
 have hE:=(Tryz.ah (S:=SCm V₀ K2 w2.heap.size c xs.length f) 61 Tryz.bg fs0 aD)
 refine JK.done (JK.inBlock ?_)
 refine JK.region (id:=6) hE ⟨s,D,rfl⟩ (by intro o ho e he p hp;simp at ho hp;rcases ho with rfl | rfl<;> simp at he<;> subst he<;> rcases hp with rfl | rfl | rfl<;> simp) ?_
 simp only[sl1]
 simp -implicitDefEqProofs (maxSteps:=9^9) (disch:=omega) only[go_sem,simprocAttr]
 refine JK.forget (fun p hp=>wB (hands:=hands) (skill:=skill) (mn:=mn) (mx:=mx) (xs:=xs) (c:=c) (i:=i+1) hsets p (by simpa[sl1] using hp) 0) ?_
 simpa[sl1] using h
theorem _root_.Go.Mu.aI.vf{V0 V:Nat→Prop}{K0 K:Kr}{w0 w:World}{σ:List aa}(h:aI V0 K0 [] w0 V K σ w):Rel V0 w0 w:=⟨h.size,fun b hb hv=>(h.keep b hb hv bj.none).1,h.os,h.tape,h.output⟩
theorem _root_.Go.Mu.aI.home{V0 V:Nat→Prop}{K0 K:Kr}{w0 w:World}{σ:List aa}(h:aI V0 K0 [] w0 V K σ w):aI V0 K0 [] w0 V0 K0 [] w:=
 ⟨.refl _ _,Nat.le_refl _,h.size,fun b hb hv _=>⟨(h.keep b hb hv bj.none).1,bj.none,fun _=>rfl⟩,fun _ h=>h,fun _ h=> .inl h,h.os,h.tape,h.output⟩
theorem BP{K:Kr}{n:Nat}{tm sl':List (Nat×AV)}{tmps:Array Value}{i:Nat}(hF:FR K n 61 ⟨Tryz.bp,tm,sl'⟩ tmps)(h16:ae sl' 16=some (.int .i64 xs.length))(h17:ae sl' 17=some (.int .i64 i))(hT:∀p∈[(1,v1),(4,v4),(15,v15)],tmps[p.1]? = some p.2)
  (k1:VR K2 0 (.eptr [.int .i64 hands,.int .i64 skill,.int .i64 mn,.int .i64 mx,sets,.list .no 6 (xs.map Tn.av)] 0) v1) (k4:VR K2 0 (.eptr [.chan (some c)] 0) v4) (k15:VR K2 0 (.list .no 6 (xs.map Tn.av)) v15):FR K2 0 61 ⟨Tryz.bp,[],sl1 hands skill mn mx sets xs c i⟩ tmps:=by
 refine⟨hF.1,fun t v hv=>?_⟩
 have hv2:(if Tryz.bp t=true then ae (sl1 hands skill mn mx sets xs c i) t else ae [] t)=some v:=hv
 split at hv2
 ·simp only[sl1,ae] at hv2
  split at hv2
  ·rename_i e;subst e;simp at hv2;subst hv2;exact⟨v1,hT (1,v1) (by simp),k1⟩
  split at hv2
  ·rename_i e;subst e;simp at hv2;subst hv2;exact⟨v4,hT (4,v4) (by simp),k4⟩
  split at hv2
  ·rename_i e;subst e;simp at hv2;subst hv2;exact⟨v15,hT (15,v15) (by simp),k15⟩
  split at hv2
  ·rename_i e;subst e;simp at hv2;subst hv2
   obtain⟨c',q1,q2⟩:=hF.2 16 _ (show(if Tryz.bp 16=true then ae sl' 16 else ae tm 16)=_ from h16)
   obtain rfl:=q2.bY
   exact⟨_,q1,.int _ _⟩
  split at hv2
  ·rename_i e;subst e;simp at hv2;subst hv2
   obtain⟨c',q1,q2⟩:=hF.2 17 _ (show(if Tryz.bp 17=true then ae sl' 17 else ae tm 17)=_ from h17)
   obtain rfl:=q2.bY
   exact⟨_,q1,.int _ _⟩
  cases hv2
 ·cases hv2
theorem spawn(hlen:xs.length≤4294967296)(hsets:Plain sets)(hR2:R K2 [] w2)(hO2:aU V₀ V₀ K2 [] w2)(hV0:∀b,V₀ b→b<w2.heap.size)
  (hchk:∀(i:Nat) (hi:i<xs.length) (Q:AV→List aa→Prop),(∀σ',Q (.tup [ar (f i).1,.int .i64 (f i).2]) σ')→ao (fun M=>M=Co Tryz.prog V₀) 117 [xs[i].av,.int .i64 hands] [] Q)
  (k1:VR K2 0 (.eptr [.int .i64 hands,.int .i64 skill,.int .i64 mn,.int .i64 mx,sets,.list .no 6 (xs.map Tn.av)] 0) v1) (k4:VR K2 0 (.eptr [.chan (some c)] 0) v4) (k15:VR K2 0 (.list .no 6 (xs.map Tn.av)) v15) {kk:List Item}
  (hend:JK (Tryz.E (S:=SCm V₀ K2 w2.heap.size c xs.length f) 61 Tryz.bg fs0) (CmH V₀ K2 w2.heap.size c xs.length f xs.length []) b cs ds [(1,v1),(4,v4),(15,v15)] V₀ K2 [] w2
   (fun g w V=>JC (Crn V₀ K2 w2.heap.size c xs.length f) xs.length [] g w V PostC) kk ⟨Tryz.bp,[],sl1 hands skill mn mx sets xs c xs.length++[(18,.bool false)]⟩ []) :
  ∀(m i:Nat),i+m=xs.length→∀(w:World) (a:Act),aI V₀ K2 [] w2 V₀ K2 [] w→FR K2 0 61 ⟨Tryz.bp,[],sl1 hands skill mn mx sets xs c i⟩ a.tmps→a.defers=ds→(∀p∈[(1,v1),(4,v4),(15,v15)],a.tmps[p.1]? = some p.2)→
   JC (Crn V₀ K2 w2.heap.size c xs.length f) i [] (G (b.atR a (.code (bW Tryz.f147 3):: .inLoop (bW Tryz.f147 3):: .inBlock 0::kk)) cs) w V₀ PostC:=by
 intro m
 induction m with
 | zero=>
  intro i hi w a hS hF hd hT
  obtain rfl:i=xs.length:=by omega
  have W:=wo (s:=xs.length) (D:=[]) (b:=b) (cs:=cs) (ds:=ds) (V₀:=V₀) (K2:=K2) (w2:=w2) (v1:=v1) (v4:=v4) (v15:=v15) (f:=f) (c:=c) (hands:=hands) (skill:=skill) (mn:=mn) (mx:=mx) (sets:=sets) (xs:=xs) hlen (Nat.le_refl _)
   (au:=fun g w V=>JC (Crn V₀ K2 w2.heap.size c xs.length f) xs.length [] g w V PostC) (kk:=kk) (fun h=>absurd h (Nat.lt_irrefl _)) (fun _=>hend)
  have J:=W K2 w V₀ a (hR2.rely hO2 hS.vf) (hO2.rely hS.vf) hF hS hd hT
  exact JC.bind J fun s' D' g' w' V' ⟨e1,e2,h⟩=>by subst e1;subst e2;exact h
 | succ m ih=>
  intro i hi w a hS hF hd hT
  have hlt:i<xs.length:=by omega
  have W:=wo (s:=i) (D:=[]) (b:=b) (cs:=cs) (ds:=ds) (V₀:=V₀) (K2:=K2) (w2:=w2) (v1:=v1) (v4:=v4) (v15:=v15) (f:=f) (c:=c) (hands:=hands) (skill:=skill) (mn:=mn) (mx:=mx) (sets:=sets) (xs:=xs) hlen (Nat.le_of_lt hlt)
   (au:=fun g w V=>JC (Crn V₀ K2 w2.heap.size c xs.length f) i [] g w V PostC) (kk:=kk) (fun _=>Eg hlen hsets hlt (fun K w' V a' hR' hO' hF' hS' hd' hT'=>?_)) (fun h=>absurd h (by omega))
  ·have J:=W K2 w V₀ a (hR2.rely hO2 hS.vf) (hO2.rely hS.vf) hF hS hd hT
   exact JC.bind J fun s' D' g' w' V' ⟨e1,e2,h⟩=>by subst e1;subst e2;exact h
  ·refine JC.ret ⟨rfl,rfl,?_⟩
   obtain⟨fv,hfv,hfr⟩:=hF'.2 22 _ (by rfl)
   cases hfr with
   | fn _ _ _ first' cap' q1 q2 g1 g2=>
   obtain rfl:first'=[]:=List.eq_nil_of_length_eq_zero (by simpa using q1.symm)
   have hev:a'.eval (.tmp 22)= .func (.func 193) #[] cap'.toArray:=by
    simp[Act.eval,hfv]
   have hrely:∀w₁,Rel V w' w₁→R K [] w₁∧aU V₀ V K [] w₁∧aI V₀ K2 [] w2 V K [] w₁:=fun w₁ hr=>⟨hR'.rely hO' hr,hO'.rely hr,hS'.trans (.bN hr)⟩
   refine JC.go (V₁:=V₀) (Vc:=V) rfl (fun b hb=>hS'.sub b hb) (fun b hb=>hb) (fun b h1 h2=>h1) (show i+1≤xs.length by omega) fun w₁ hr=>?_
   obtain⟨r1,r2,r3⟩:=hrely w₁ hr
   refine⟨_,_,#[],JM (P:=Tryz.prog) rfl hev,.idle _ _ _,?_,?_⟩
   ·refine Kt (Sh:=V₀) (K2:=K2) (x:=xs[i]) (hands:=hands) (a1:= .int .i64 skill) (a2:= .int .i64 mn) (a3:= .int .i64 mx) (a4:=sets) (a5:= .list .no 6 (xs.map Tn.av)) (i:=i) (r:=f i) (fun b hb=>r3.new b hb) (fun b hb=>⟨r3.sub b hb,Nat.lt_of_lt_of_le (hV0 b hb) r3.size,fun o=>(r3.keep b (hV0 b hb) hb bj.none).2.2 o⟩) r3.size (hchk i hlt) r1 r2 ?_
    exact⟨q2,g2⟩
   ·have hN:=IQ (s:=i+1) (D:=[]) (b:=b) (cs:=cs) (ds:=ds) (V₀:=V₀) (K2:=K2) (w2:=w2) (v1:=v1) (v4:=v4) (v15:=v15) (f:=f) (c:=c) (hands:=hands) (skill:=skill) (mn:=mn) (mx:=mx) (sets:=sets) (xs:=xs) hlen hsets hlt
     (au:=fun g w V=>JC (Crn V₀ K2 w2.heap.size c xs.length f) (i+1) [] g w V PostC) (kk:= .inLoop (bW Tryz.f147 3):: .inBlock 0::kk) (JK.inLoop (fun K3 w3 V3 a3 hR3 hO3 hF3 hS3 hd3 hT3=>?_))
    ·have hFi:FR K2 0 61 ⟨Tryz.bp,[],sl1 hands skill mn mx sets xs c i⟩ a'.tmps:=BP hF' rfl rfl hT' k1 k4 k15
     have J:=hN K2 w₁ V₀ a' (hR2.rely hO2 r3.vf) (hO2.rely r3.vf) hFi r3.home hd' hT'
     exact JC.bind J fun s' D' g' w' V' ⟨e1,e2,h⟩=>by subst e1;subst e2;exact h
    ·refine JC.ret ⟨rfl,rfl,?_⟩
     have hFi:FR K2 0 61 ⟨Tryz.bp,[],sl1 hands skill mn mx sets xs c (i+1)⟩ a3.tmps:=BP hF3 rfl rfl hT3 k1 k4 k15
     exact(ih (i+1) (by omega) w3 a3 hS3.home hFi hd3 hT3).shrink fun b hb=>hS3.sub b hb
end
end Go.Proofs
namespace Go.Proofs
open Go Go.Mu Go.Conc
section
variable {xs:List Tn}{hands skill mn mx:Int}{sets:AV}{f:Nat→List Int×Int}{c:Nat}{b:Frame}{cs:List Frame}{ds:List Deferred}{V₀:Nat→Prop}{K2:Kr}{w2:World}{PostC:Nat→List Nat→Goroutine→World→(Nat→Prop)→Prop}{v1 v4 v15:Value}{T:List (Nat×Value)}
noncomputable def kU:Code:=bx (bx qt)
def sl2(c n:Nat)(j:Nat):List (Nat×AV):=[(4,.eptr [.chan (some c)] 0),(7,.vec 0 n),(8,.ptr 1 0),(34,.int .i64 n),(35,.int .i64 j)]
theorem Ke{s:Nat}{D:List Nat}(hlen:xs.length≤1048576)(hsets:Plain sets){au:Goroutine→World→(Nat→Prop)→Prop}
  (h:JK (Tryz.E (S:=SCm V₀ K2 w2.heap.size c xs.length f) 61 Tryz.bg fs0) (CmH V₀ K2 w2.heap.size c xs.length f s D) b cs ds [] V₀ K2 [] w2 au (.code (bW Tryz.f147 10):: .inLoop (bW Tryz.f147 10):: .inBlock 2::[.code (bx kU)]) ⟨Tryz.bp,[],sl2 c xs.length 0⟩ [.vec 1 (List.replicate xs.length (.list .full 0 [])),.cells [.int .i64 xs.length,.list .full 0 [],.int .i64 0]]) :
  JK (Tryz.E (S:=SCm V₀ K2 w2.heap.size c xs.length f) 61 Tryz.bg fs0) (CmH V₀ K2 w2.heap.size c xs.length f s D) b cs ds [] V₀ K2 [] w2 au [.code qt] ⟨Tryz.bp,[],sl1 hands skill mn mx sets xs c xs.length++[(18,.bool false)]⟩ []:=by
 have hE:=(Tryz.ah (S:=SCm V₀ K2 w2.heap.size c xs.length f) 61 Tryz.bg fs0 aD)
 have hle:((xs.length:Int)≤1048576)=True:=by simp;omega
 refine JK.seq (x:= .region 7 _ false) ?_
 refine JK.region hE ⟨s,D,rfl⟩ .nil ?_
 simp only[sl1,List.cons_append,List.nil_append]
 simp -implicitDefEqProofs (maxSteps:=9^9) (disch:=omega) only[go_sem,simprocAttr,hle,if_true,Int.toNat_natCast]
 refine JK.seq (x:= .region 8 _ false) ?_
 refine JK.region hE ⟨s,D,rfl⟩ .nil ?_
 simp -implicitDefEqProofs (maxSteps:=9^9) (disch:=omega) only[go_sem,simprocAttr,ai,ax,List.getElem?_cons_zero,List.getElem?_cons_succ,List.length_cons,List.length_nil,List.set_cons_zero,List.set_cons_succ]
 refine JK.seq (x:= .seq (.region 9 _ false) (.block 2 (.loop _))) ?_
 refine JK.seq ?_
 refine JK.region hE ⟨s,D,rfl⟩ .nil ?_
 simp -implicitDefEqProofs (maxSteps:=9^9) (disch:=omega) only[go_sem,simprocAttr]
 refine JK.block (JK.loop ?_)
 exact JK.ay (by simp[sl2,ae]) h
end
end Go.Proofs
namespace Go.Proofs
open Go Go.Mu Go.Conc
section
variable {n:Nat}{f:Nat→List Int×Int}{c:Nat}{b:Frame}{cs:List Frame}{ds:List Deferred}{V₀:Nat→Prop}{K2:Kr}{w2:World}{PostC:Nat→List Nat→Goroutine→World→(Nat→Prop)→Prop}
theorem tu{s:Nat}{D:List Nat}(hlen:n≤1048576){i:Nat}(hi:i≤n){σ:List aa}{au:Goroutine→World→(Nat→Prop)→Prop}{kk:List Item}
  (h1:i<n→JK (Tryz.E (S:=SCm V₀ K2 w2.heap.size c n f) 61 Tryz.bg fs0) (CmH V₀ K2 w2.heap.size c n f s D) b cs ds [] V₀ K2 [] w2 au (.code (bx (bx (bW Tryz.f147 10))):: .inLoop (bW Tryz.f147 10):: .inBlock 2::kk) ⟨Tryz.bp,[],sl2 c n i⟩ σ)
  (h2:i=n→JK (Tryz.E (S:=SCm V₀ K2 w2.heap.size c n f) 61 Tryz.bg fs0) (CmH V₀ K2 w2.heap.size c n f s D) b cs ds [] V₀ K2 [] w2 au kk ⟨Tryz.bp,[],sl2 c n i⟩ σ) :
  JK (Tryz.E (S:=SCm V₀ K2 w2.heap.size c n f) 61 Tryz.bg fs0) (CmH V₀ K2 w2.heap.size c n f s D) b cs ds [] V₀ K2 [] w2 au (.code (bW Tryz.f147 10):: .inLoop (bW Tryz.f147 10):: .inBlock 2::kk) ⟨Tryz.bp,[],sl2 c n i⟩ σ:=by
 have hE:=(Tryz.ah (S:=SCm V₀ K2 w2.heap.size c n f) 61 Tryz.bg fs0 aD)
 refine JK.seq (x:= .region 10 _ false) ?_
 refine JK.region hE ⟨s,D,rfl⟩ .nil ?_
 simp only[sl2]
 simp -implicitDefEqProofs (maxSteps:=9^9) (disch:=omega) only[go_sem,simprocAttr]
 refine⟨fun q=>?_,fun q=>?_⟩
 ·refine JK.seq (x:= .cond _ _ _) (JK.cond (t:=true) rfl ?_)
  rw[if_pos rfl]
  exact JK.skip (JK.ay (by simp[sl2,ae]) (h1 (by omega)))
 ·refine JK.seq (x:= .cond _ _ _) (JK.cond (t:=false) rfl ?_)
  rw[if_neg (by simp)]
  exact JK.exit rfl (JK.ay (by simp[sl2,ae]) (h2 (by omega)))
def ov(x:AV):Prop:=(∃tk sz l,x= .list tk sz l)∧Plain x
theorem ov.cells{x:AV}(h:ov x):∀c∈x.cells,Plain c:=by
 obtain⟨⟨tk,sz,l,rfl⟩,hp⟩:=h
 intro c hc
 simp[AV.cells] at hc
 subst hc;exact hp
theorem cA(l:List Int):ov (ar l):=⟨⟨_,_,_,rfl⟩,.map fun x _=> .l8⟩
theorem rH{s:Nat}{D:List Nat}(hlen:n≤1048576){i:Nat}(hi:i<n){all:List AV}(hg:∀x∈all,ov x){F:List AV}(hF:∀x∈F,Plain x){junk:List aa}{tm sl:List (Nat×AV)}(hsl:∀p∈sl2 c n i,ae sl p.1=some p.2){au:Goroutine→World→(Nat→Prop)→Prop}{kk:List Item}
  (h:JK (Tryz.E (S:=SCm V₀ K2 w2.heap.size c n f) 61 Tryz.bg fs0) (CmH V₀ K2 w2.heap.size c n f s D) b cs ds [] V₀ K2 [] w2 au kk ⟨Tryz.bp,[],sl2 c n (i+1)⟩ [.vec 1 all,.cells F]) :
  JK (Tryz.E (S:=SCm V₀ K2 w2.heap.size c n f) 61 Tryz.bg fs0) (CmH V₀ K2 w2.heap.size c n f s D) b cs ds [] V₀ K2 [] w2 au (.inBlock 3:: .code (bx (bx (bx (bW Tryz.f147 10))))::kk) ⟨Tryz.bp,tm,sl⟩ (.vec 1 all:: .cells F::junk):=by
 have hE:=(Tryz.ah (S:=SCm V₀ K2 w2.heap.size c n f) 61 Tryz.bg fs0 aD)
 refine JK.ay hsl ?_
 refine JK.cut (σ:=[.vec 1 all,.cells F]) (junk:=junk) (fun p hp=>?_) (fun o ho=>?_) ?_
 ·simp only[sl2,List.mem_cons,List.not_mem_nil,or_false] at hp
  rcases hp with rfl | rfl | rfl | rfl | rfl
  ·exact fj (by simp only[List.mem_cons,List.not_mem_nil,or_false,forall_eq];exact nO) _
  ·exact .vec _ _ (by simp)
  ·exact .ptr _ _ (by simp)
  ·exact .int _ _
  ·exact .int _ _
 ·simp only[List.mem_cons,List.not_mem_nil,or_false] at ho
  rcases ho with rfl | rfl
  ·exact fun x hx y hy=>(hg x hx).cells y hy _
  ·exact fun x hx=>hF x hx _
 refine JK.inBlock ?_
 refine JK.region (id:=15) hE ⟨s,D,rfl⟩ .nil ?_
 simp only[sl2]
 simp -implicitDefEqProofs (maxSteps:=9^9) (disch:=omega) only[go_sem,simprocAttr]
 exact JK.ay (by simp[sl2,ae]) h
noncomputable def xG:Array Oper:=qh (n9 (mX (n9 (bx (bx (bW Tryz.f147 10))))))
theorem Jz{s:Nat}{D:List Nat}(hlen:n≤1048576){i k:Nat}(hi:i<n)(hk:k<n){all:List AV}(hg:∀x∈all,ov x)(hall:all.length=n){tk:Tok}{sz:Nat}{l:List AV}(ha:all[k]? = some (.list tk sz l)){at_ e1:Int}{vs:AV}(hvs:Plain vs){au:Goroutine→World→(Nat→Prop)→Prop}{kk:List Item}
  (h1:(f k).2≠0→(k:Int)<at_→JK (Tryz.E (S:=SCm V₀ K2 w2.heap.size c n f) 61 Tryz.bg fs0) (CmH V₀ K2 w2.heap.size c n f s D) b cs ds [] V₀ K2 [] w2 au kk ⟨Tryz.bp,[],sl2 c n (i+1)⟩ [.vec 1 (all.set k (ar (f k).1)),.cells [.int .i64 k,ar (f k).1,.int .i64 (f k).2]])
  (h2:¬((f k).2≠0∧(k:Int)<at_)→JK (Tryz.E (S:=SCm V₀ K2 w2.heap.size c n f) 61 Tryz.bg fs0) (CmH V₀ K2 w2.heap.size c n f s D) b cs ds [] V₀ K2 [] w2 au kk ⟨Tryz.bp,[],sl2 c n (i+1)⟩ [.vec 1 (all.set k (ar (f k).1)),.cells [.int .i64 at_,vs,.int .i64 e1]]) :
  JK (Tryz.E (S:=SCm V₀ K2 w2.heap.size c n f) 61 Tryz.bg fs0) (CmH V₀ K2 w2.heap.size c n f s D) b cs ds [] V₀ K2 [] w2 au
   (.inRegion xG [2,3]:: .code (bx (mX (n9 (bx (bx (bW Tryz.f147 10)))))):: .inBlock 3:: .code (bx (bx (bx (bW Tryz.f147 10))))::kk)
   ⟨Tryz.bp,[(38,.agg [.int .i64 k,ar (f k).1,.int .i64 (f k).2])],sl2 c n i⟩ [.vec 1 all,.cells [.int .i64 at_,vs,.int .i64 e1]]:=by
 have hE:=(Tryz.ah (S:=SCm V₀ K2 w2.heap.size c n f) 61 Tryz.bg fs0 aD)
 refine JK.last (ops:=xG) hE ⟨s,D,rfl⟩ 2 [2,3] rfl .nil ?_
 unfold xG
 obtain⟨x,hx⟩:∃x,n9 (mX (n9 (bx (bx (bW Tryz.f147 10)))))=x:=⟨_,rfl⟩
 rw[hx]
 conv at hx=>lhs;whnf
 subst hx
 simp only[sl2,ar,qh,List.drop_succ_cons,List.drop_zero]
 simp -implicitDefEqProofs (maxSteps:=9^9) (disch:=omega) only[go_sem,simprocAttr,ai,ax,List.getElem?_cons_zero,List.getElem?_cons_succ,List.length_cons,List.length_nil,List.set_cons_zero,List.set_cons_succ,List.cons_append,List.nil_append]
 refine JK.seq (x:= .region 12 _ false) ?_
 refine JK.region hE ⟨s,D,rfl⟩ .nil ?_
 simp -implicitDefEqProofs (maxSteps:=9^9) (disch:=omega) only[go_sem,simprocAttr,hall,ha,Int.toNat_natCast,AV.flat,if_true,ai,ax,List.getElem?_cons_zero,List.getElem?_cons_succ,List.length_cons,List.length_nil,List.set_cons_zero,List.set_cons_succ,List.cons_append,List.nil_append]
 refine JK.seq (x:= .region 13 _ false) ?_
 refine JK.region hE ⟨s,D,rfl⟩ .nil ?_
 have hg':∀x∈all.set k (ar (f k).1),ov x:=fun x hx=>by
  rcases List.mem_or_eq_of_mem_set hx with h | rfl
  ·exact hg x h
  ·exact cA _
 have hold:∀x∈[AV.int .i64 at_,vs,.int .i64 e1],Plain x:=by
  simp only[List.mem_cons,List.not_mem_nil,or_false,forall_eq_or_imp,forall_eq]
  exact⟨.int,hvs,.int⟩
 have hnew:∀x∈[AV.int .i64 k,ar (f k).1,.int .i64 (f k).2],Plain x:=by
  simp only[List.mem_cons,List.not_mem_nil,or_false,forall_eq_or_imp,forall_eq]
  exact⟨.int,(cA _).2,.int⟩
 by_cases hz:(f k).2=0
 ·simp -implicitDefEqProofs (maxSteps:=9^9) (disch:=omega) only[go_sem,simprocAttr,hz,ai,ax,List.getElem?_cons_zero,List.getElem?_cons_succ,List.length_cons,List.length_nil,List.set_cons_zero,List.set_cons_succ,List.cons_append,List.nil_append]
  refine JK.cond (t:=false) rfl ?_
  rw[if_neg (by simp)]
  exact JK.skip (rH hlen hi hg' hold (by simp[sl2,ae]) (h2 (fun h=>h.1 hz)))
 ·have hz':((f k).2=0)=False:=by simp[hz]
  simp -implicitDefEqProofs (maxSteps:=9^9) (disch:=omega) only[go_sem,simprocAttr,hz',ai,ax,List.getElem?_cons_zero,List.getElem?_cons_succ,List.length_cons,List.length_nil,List.set_cons_zero,List.set_cons_succ,List.cons_append,List.nil_append]
  refine⟨fun q=>?_,fun q=>?_⟩
  ·refine JK.cond (t:=true) rfl ?_
   rw[if_pos rfl]
   refine JK.region (id:=14) hE ⟨s,D,rfl⟩ .nil ?_
   simp -implicitDefEqProofs (maxSteps:=9^9) (disch:=omega) only[go_sem,simprocAttr,ai,ax,List.getElem?_cons_zero,List.getElem?_cons_succ,List.length_cons,List.length_nil,List.set_cons_zero,List.set_cons_succ,List.cons_append,List.nil_append]
   exact rH hlen hi hg' hnew (by simp[sl2,ae]) (h1 hz q)
  ·refine JK.cond (t:=false) rfl ?_
   rw[if_neg (by simp)]
   exact JK.skip (rH hlen hi hg' hold (by simp[sl2,ae]) (h2 (fun h=>q h.2)))
end
end Go.Proofs
namespace Go.Proofs
open Go Go.Mu Go.Conc
section
variable {n:Nat}{f:Nat→List Int×Int}{c:Nat}{b:Frame}{cs:List Frame}{ds:List Deferred}{V₀:Nat→Prop}{K2:Kr}{w2:World}{PostC:Nat→List Nat→Goroutine→World→(Nat→Prop)→Prop}
structure gO(n:Nat)(f:Nat→List Int×Int)(D:List Nat)(all:List AV)(at_ e1:Int):Prop where
 len:all.length=n
 get:∀k,k<n→all[k]? = some (if k∈D then ar (f k).1 else .list .full 0 [])
 low:∀k∈D,(f k).2≠0→at_≤k
 one:(at_=n∧e1=0)∨∃k∈D,at_=k∧(f k).2≠0∧e1=(f k).2
theorem gO.start:gO n f [] (List.replicate n (.list .full 0 [])) n 0:=
 ⟨by simp,fun k hk=>by simp[hk],by simp,.inl ⟨rfl,rfl⟩⟩
theorem gO.lW{D:List Nat}{all:List AV}{at_ e1:Int}(h:gO n f D all at_ e1):∀x∈all,ov x:=by
 intro x hx
 obtain⟨k,hk⟩:=List.getElem?_of_mem hx
 have hlt:k<n:=by have:=(List.getElem?_eq_some_iff.1 hk).1;rw[h.len] at this;exact this
 rw[h.get k hlt] at hk
 simp only[Option.some.injEq] at hk
 subst hk
 split
 ·exact cA _
 ·exact⟨⟨_,_,_,rfl⟩,fun m=> .list _ _ _ (fun id e=>by cases e) fun i j hi=>by simp at hi⟩
theorem gO.set{D:List Nat}{all:List AV}{at_ e1:Int}(h:gO n f D all at_ e1){k:Nat}(hk:k<n):(all.set k (ar (f k).1)).length=n∧∀j,j<n→(all.set k (ar (f k).1))[j]? = some (if j∈k::D then ar (f j).1 else .list .full 0 []):=by
 refine⟨by simpa using h.len,fun j hj=>?_⟩
 by_cases e:k=j
 ·subst e
  rw[List.getElem?_set_self (by rw[h.len];exact hk)]
  simp
 ·rw[List.getElem?_set_ne e,h.get j hj]
  simp[Ne.symm e]
theorem gO.new{D:List Nat}{all:List AV}{at_ e1:Int}(h:gO n f D all at_ e1){k:Nat}(hk:k<n)(h1:(f k).2≠0)(h2:(k:Int)<at_):gO n f (k::D) (all.set k (ar (f k).1)) k (f k).2:=by
 refine⟨(h.set hk).1,(h.set hk).2,fun j hj he=>?_,.inr ⟨k,by simp,rfl,h1,rfl⟩⟩
 rw[List.mem_cons] at hj
 rcases hj with rfl | hj
 ·exact Int.le_refl _
 ·have:=h.low j hj he;omega
theorem gO.old{D:List Nat}{all:List AV}{at_ e1:Int}(h:gO n f D all at_ e1){k:Nat}(hk:k<n)(h1:¬((f k).2≠0∧(k:Int)<at_)):gO n f (k::D) (all.set k (ar (f k).1)) at_ e1:=by
 refine⟨(h.set hk).1,(h.set hk).2,fun j hj he=>?_,h.one.imp id fun⟨q,h1,h2⟩=>⟨q,by simp[h1],h2⟩⟩
 rw[List.mem_cons] at hj
 rcases hj with rfl | hj
 ·have:=fun q=>h1 ⟨he,q⟩;omega
 ·exact h.low j hj he
theorem BV(hlen:n≤1048576)(hV0:∀b,V₀ b→b<w2.heap.size){kk:List Item}
  (hend:∀(D:List Nat) (all:List AV) (at_ e1:Int) (vs:AV),D.length=n→gO n f D all at_ e1→Plain vs→JK (Tryz.E (S:=SCm V₀ K2 w2.heap.size c n f) 61 Tryz.bg fs0) (CmH V₀ K2 w2.heap.size c n f n D) b cs ds [] V₀ K2 [] w2
   (fun g w V=>JC (Crn V₀ K2 w2.heap.size c n f) n D g w V PostC) kk ⟨Tryz.bp,[],sl2 c n n⟩ [.vec 1 all,.cells [.int .i64 at_,vs,.int .i64 e1]]) :
  ∀(m i:Nat),i+m=n→∀(D:List Nat) (all:List AV) (at_ e1:Int) (vs:AV),D.length=i→gO n f D all at_ e1→Plain vs→
   JK (Tryz.E (S:=SCm V₀ K2 w2.heap.size c n f) 61 Tryz.bg fs0) (CmH V₀ K2 w2.heap.size c n f n D) b cs ds [] V₀ K2 [] w2
    (fun g w V=>JC (Crn V₀ K2 w2.heap.size c n f) n D g w V PostC) (.code (bW Tryz.f147 10):: .inLoop (bW Tryz.f147 10):: .inBlock 2::kk) ⟨Tryz.bp,[],sl2 c n i⟩ [.vec 1 all,.cells [.int .i64 at_,vs,.int .i64 e1]]:=by
 intro m
 induction m with
 | zero=>
  intro i hi D all at_ e1 vs hD hG hvs
  obtain rfl:i=n:=by omega
  exact tu hlen (Nat.le_refl _) (fun h=>absurd h (Nat.lt_irrefl _)) fun _=>hend D all at_ e1 vs hD hG hvs
 | succ m ih=>
  intro i hi D all at_ e1 vs hD hG hvs
  have hlt:i<n:=by omega
  refine tu hlen (Nat.le_of_lt hlt) (fun _=>?_) (fun h=>absurd h (by omega))
  have hE:=(Tryz.ah (S:=SCm V₀ K2 w2.heap.size c n f) 61 Tryz.bg fs0 aD)
  refine JK.seq (x:= .block 3 (.seq (.region 11 _ false) _)) (JK.block (JK.seq ?_))
  refine JK.first hE ⟨n,D,rfl⟩ 1 [1,2,3] rfl (by decide) .nil ?_
  simp only[List.take_succ_cons,List.take_zero,sl2]
  simp -implicitDefEqProofs (maxSteps:=9^9) (disch:=omega) only[go_sem,simprocAttr]
  intro K w V a hR hO hF hS hd hT
  refine JC.ret ⟨rfl,rfl,?_⟩
  obtain⟨inf,hinf,_,_,⟨z,hz,_⟩,_⟩:=(tk (i:=Tryz.EU) Tryz.underlying236 ⟨_,rfl,rfl⟩).info
  have hch:a.eval (.tmp 37)= .chan (some c):=by
   have h37:=ak (x:= .tmp 37) hF rfl
   generalize a.eval (.tmp 37)=q at h37
   cases h37;rfl
  refine JC.recv rfl (show D.length<n by omega) fun w₁ hr=>?_
  obtain⟨es,hst,hes⟩:=E4 (P:=Tryz.prog) (main:=true) (b:=b) (cs:=cs) (w:=w₁) (a:=a) (ops:=xG) (i:=1) (rest:=[2,3]) (k:= .code (bx (mX (n9 (bx (bx (bW Tryz.f147 10)))))):: .inBlock 3:: .code (bx (bx (bx (bW Tryz.f147 10)))):: .inLoop (bW Tryz.f147 10):: .inBlock 2::kk) rfl Tryz.underlying234 hinf hz
  rw[hch] at hst
  refine⟨_,z,es,hst,?_,fun mm w' hr' hk hkD hM hmr hdj=>?_⟩
  ·exact⟨Nat.le_refl _,fun _ _ _=>rfl,rfl,rfl,rfl,Nat.le_refl _,fun e he=>(hes e he).elim⟩
  ·obtain⟨hVm,Km,hag,hKm,hv⟩:=hM
   have hR1:=(hR.rely hO hr).rely (hO.rely hr) hr'
   have hO1:=(hO.rely hr).rely hr'
   have hS1:=(hS.trans (.bN hr)).trans (.bN hr')
   obtain⟨K',r1,r2,e1',e2',hKS,hKF⟩:=hR1.merge hO1 (Vm:=mm.V) (Km:=Km) (fun q hq o=>(hag q hq o).trans ((hS1.keep q (hV0 q hq) hq bj.none).2.2 o).symm) (fun q o u hu=>⟨(hKm q o u hu).1,hmr.cell (hKm q o u hu).1 (hKm q o u hu).2⟩) hdj
   have hS2:aI V₀ K2 [] w2 (fun q=>V q∨mm.V q) K' [.vec 1 all,.cells [.int .i64 at_,vs,.int .i64 e1]] w':=
    ⟨⟨fun r hr=>absurd hr (Nat.not_lt_zero r),fun r hr=>absurd hr (Nat.not_lt_zero r),fun q o v hv=>e1'.S q o v (hS1.ext.S q o v hv)⟩,Nat.zero_le _,hS1.size,
     fun q hq hvq hf=>⟨(hS1.keep q hq hvq hf).1,hKF q (hS1.keep q hq hvq hf).2.1,fun o=>(hKS q (hS1.sub q hvq) o).trans ((hS1.keep q hq hvq hf).2.2 o)⟩,fun q hq=> .inl (hS1.sub q hq),fun q hq=>hq.elim (hS1.new q) (hVm q),hS1.os,hS1.tape,hS1.output⟩
   have hv2:=hv.mono e2' (Nat.zero_le 2)
   rw[ux (o:=⟨some 38,.recv 234 (.tmp 37) false,236,_,_,none⟩) rfl]
   have hW:=Jz (b:=b) (cs:=cs) (ds:=ds) (V₀:=V₀) (K2:=K2) (w2:=w2) (s:=n) (D:=mm.k::D) (c:=c) (f:=f) (n:=n) (k:=mm.k) (kk:= .inLoop (bW Tryz.f147 10):: .inBlock 2::kk) hlen hlt hk hG.lW hG.len (tk:= .full) (sz:=0) (l:=[]) (by rw[hG.get mm.k hk,if_neg hkD]) (at_:=at_) (e1:=e1) hvs
    (au:=fun g w V=>JC (Crn V₀ K2 w2.heap.size c n f) n (mm.k::D) g w V PostC)
    (fun q1 q2=>JK.inLoop (ih (i+1) (by omega) (mm.k::D) _ _ _ _ (by simp[hD]) (hG.new hk q1 q2) (cA _).2))
    (fun q1=>JK.inLoop (ih (i+1) (by omega) (mm.k::D) _ _ _ _ (by simp[hD]) (hG.old hk q1) hvs))
   have hF2:FR K' 2 61 ⟨Tryz.bp,[(38,.agg [.int .i64 mm.k,ar (f mm.k).1,.int .i64 (f mm.k).2])],sl2 c n i⟩ (a.put (some 38) mm.v).tmps:=by
    refine⟨by show(a.tmps.setIfInBounds 38 mm.v).size=_;rw[Array.size_setIfInBounds];exact hF.1,fun t v hv'=>?_⟩
    have hv3:(if Tryz.bp t=true then ae (sl2 c n i) t else ae [(38,.agg [.int .i64 mm.k,ar (f mm.k).1,.int .i64 (f mm.k).2])] t)=some v:=hv'
    split at hv3
    ·rename_i hkp
     have hne:(38:Nat)≠t:=by rintro rfl;exact absurd hkp (by decide)
     obtain⟨c',k1,k2⟩:=hF.2 t v (show(if Tryz.bp t=true then ae (sl2 c n i) t else _)=_ by rw[if_pos hkp];exact hv3)
     exact⟨c',by show(a.tmps.setIfInBounds 38 mm.v)[t]? = _;rw[Array.getElem?_setIfInBounds_ne hne];exact k1,k2.mono e1' (Nat.le_refl _)⟩
    ·simp only[ae] at hv3
     split at hv3
     ·rename_i e;subst e
      simp only[Option.some.injEq] at hv3;subst hv3
      refine⟨mm.v,?_,hv2⟩
      show(a.tmps.setIfInBounds 38 mm.v)[38]? = _
      rw[Array.getElem?_setIfInBounds_self_of_lt (by rw[hF.1];show 38<61;omega)]
     ·cases hv3
   have J:=hW K' w' _ _ r1 r2 hF2 hS2 ((put_defers _ _ _).trans hd) (by simp)
   exact JC.bind J fun s' D' g' w' V' ⟨e1,e2,h⟩=>by subst e1;subst e2;exact h
end
end Go.Proofs
namespace Go.Proofs
open Go Go.Mu Go.Conc
def aV:MC Tryz.prog:=fun M=>M=Bes Tryz.prog
section
variable {n:Nat}{f:Nat→List Int×Int}{c:Nat}{b:Frame}{cs:List Frame}{ds:List Deferred}{V₀:Nat→Prop}{K2:Kr}{w2:World}
theorem Kq{all:List AV}(hall:all.length=n){at_ e1:Int}{vs:AV}{Q:AV→List aa→Prop}(hQ:∀σ',Q (.tup [.list .no 1 all,.int .i64 e1]) σ') :
  aj (Tryz.E (S:=aV) 61 Tryz.bg fs0) none [.code (bx (bx kU))] ⟨Tryz.bp,[],sl2 c n n⟩ [.vec 1 all,.cells [.int .i64 at_,vs,.int .i64 e1]] (dg (Tryz.E (S:=aV) 61 Tryz.bg fs0) Tryz.f147.results.toList Q):=by
 have hE:=(Tryz.ah (S:=aV) 61 Tryz.bg fs0 aD)
 refine aj.freeze 7 (r:=0) (n:=n) (sz:=1) (xs:=all) rfl rfl rfl hall ?_
 refine aR hE (n:=1000) (by kernel_rfl) ?_
 obtain⟨x,hx⟩:∃x,bx (bx kU)=x:=⟨_,rfl⟩
 rw[hx]
 conv at hx=>lhs;whnf
 subst hx
 simp only[sl2]
 simp -implicitDefEqProofs (maxSteps:=9^9) (disch:=omega) only[go_sem,simprocAttr,ai,ax,List.getElem?_cons_zero,List.getElem?_cons_succ,List.length_cons,List.length_nil,List.set_cons_zero,List.set_cons_succ,List.cons_append,List.nil_append]
 exact hQ _
noncomputable def L9:Array Oper:=qh (n9 (bx kU))
theorem BC{all:List AV}(hall:all.length=n){at_ e1:Int}{vs:AV}{Q:AV→List aa→Prop}(hQ:∀σ',Q (.tup [.list .no 1 all,.int .i64 e1]) σ'){K':Kr}{w₁:World}{V:Nat→Prop}{a:Act}
  (hR:R K' [.vec 1 all,.cells [.int .i64 at_,vs,.int .i64 e1]] w₁) (hO:aU (fun _=>False) V K' [.vec 1 all,.cells [.int .i64 at_,vs,.int .i64 e1]] w₁) (hF:FR K' 2 61 ⟨Tryz.bp,[],sl2 c n n⟩ a.tmps) (hd:a.defers=ds)
  {cap s r:Nat} {tm:Bool} (hc:w₁.heap[c]? = some (.chan cap #[] false s r tm)) (hVc:V c) (hfc:bj K' [.vec 1 all,.cells [.int .i64 at_,vs,.int .i64 e1]] c) (hb:b.roundOf=none) {au:Goroutine→World→(Nat→Prop)→Prop}
  (hP:∀K3 w4 V3 g' w' V',aI V K' [.vec 1 all,.cells [.int .i64 at_,vs,.int .i64 e1]] w₁ V3 K3 [.vec 1 all,.cells [.int .i64 at_,vs,.int .i64 e1]] w4→
   ju (Bes Tryz.prog) 61 (dg (Tryz.E (S:=aV) 61 Tryz.bg fs0) Tryz.f147.results.toList Q) K3 [.vec 1 all,.cells [.int .i64 at_,vs,.int .i64 e1]] {w4 with heap:=w4.heap.setIfInBounds c (.chan cap #[] true s r tm)} V3 ds b cs g' w' V'→au g' w' V') :
  JB Tryz.prog (G (b.atR a [.code (bx kU)]) cs) w₁ V au:=by
 have hE:=(Tryz.ah (S:=aV) 61 Tryz.bg fs0 aD)
 have walk:JK (Tryz.E (S:=aV) 61 Tryz.bg fs0) (Bes Tryz.prog) b cs ds [] V K' [.vec 1 all,.cells [.int .i64 at_,vs,.int .i64 e1]] w₁ au [.code (bx kU)] ⟨Tryz.bp,[],sl2 c n n⟩ [.vec 1 all,.cells [.int .i64 at_,vs,.int .i64 e1]]:=by
  refine JK.seq (x:= .region 16 _ false) ?_
  refine JK.first hE rfl 1 [1] rfl (by decide) .nil ?_
  simp only[List.take_succ_cons,List.take_zero,sl2]
  simp -implicitDefEqProofs (maxSteps:=9^9) (disch:=omega) only[go_sem,simprocAttr]
  intro K3 w3 V3 a3 hR3 hO3 hF3 hS3 hd3 _
  have hch:a3.eval (.tmp 57)= .chan (some c):=by
   have h57:=ak (x:= .tmp 57) hF3 rfl
   generalize a3.eval (.tmp 57)=q at h57
   cases h57;rfl
  have hclt:=(Array.getElem?_eq_some_iff.1 hc).1
  refine JB.any rfl fun w4 hr=>?_
  have hR4:=hR3.rely hO3 hr
  have hO4:=hO3.rely hr
  have hS4:=hS3.trans (.bN hr)
  have hc4:w4.heap[c]? = some (.chan cap #[] false s r tm):=by rw[(hS4.keep c hclt hVc hfc).1];exact hc
  have hf4:=(hS4.keep c hclt hVc hfc).2.1
  obtain⟨es,hst,hes⟩:=AB (P:=Tryz.prog) (main:=true) (b:=b) (cs:=cs) (a:=a3) (ops:=L9) (i:=1) (rest:=[]) (k:=[.code (bx (bx kU))]) rfl hch hc4
  obtain⟨r5,o5⟩:=hR4.chan hO4 hc4 hf4 (.chan cap #[] true s r tm)
  refine⟨_,_,es,V3,hst,by simp,fun e he=>?_,?_⟩
  ·have hlow:=(Array.getElem?_eq_some_iff.1 hc4).1
   rcases hes e he with rfl | rfl
   ·exact⟨by simp[MemAct.ofEvent],by show c<_;simpa using hlow⟩
   ·exact⟨by simp[MemAct.ofEvent],by show c<_;simpa using hlow⟩
  ·have go:JK (Tryz.E (S:=aV) 61 Tryz.bg fs0) (Bes Tryz.prog) b cs ds [] V3 K3 [.vec 1 all,.cells [.int .i64 at_,vs,.int .i64 e1]] {w4 with heap:=w4.heap.setIfInBounds c (.chan cap #[] true s r tm)} au (.inRegion L9 []::[.code (bx (bx kU))]) ⟨Tryz.bp,[(57,.chan (some c))],sl2 c n n⟩ [.vec 1 all,.cells [.int .i64 at_,vs,.int .i64 e1]]:=by
    refine JK.done fun K6 w6 V6 a6 hR6 hO6 hF6 hS6 hd6 _=>?_
    have hF6':FR K6 2 61 ⟨Tryz.bp,[],sl2 c n n⟩ a6.tmps:=⟨hF6.1,fun t v hv=>by
     have hv':(if Tryz.bp t=true then ae (sl2 c n n) t else ae [] t)=some v:=hv
     split at hv'
     ·rename_i hk
      exact hF6.2 t v (show(if Tryz.bp t=true then ae (sl2 c n n) t else ae [(57,.chan (some c))] t)=_ by rw[if_pos hk];exact hv')
     ·cases hv'⟩
    exact(Bes Tryz.prog).bind (aj.go (Kq (c:=c) hall (at_:=at_) (vs:=vs) hQ (Bes Tryz.prog) rfl) hb hR6 hO6 hF6' hS6 hd6) fun g' w' V' h=>JB.ret (hP K3 w4 V3 g' w' V' hS4 h)
   exact go K3 _ V3 a3 r5 o5 hF3 (.refl _ _ _ _) hd3 (by simp)
 exact walk K' w₁ V a hR hO hF (.refl _ _ _ _) hd (by simp)
end
end Go.Proofs
