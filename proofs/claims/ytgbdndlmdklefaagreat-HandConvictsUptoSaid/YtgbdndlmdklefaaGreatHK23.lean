/- Texts of a proof: lemmas. -/
import Derived.Test.YtgbdndlmdklefaaGreatHK22
set_option linter.unusedSimpArgs false
set_option linter.unusedVariables false
set_option maxRecDepth 100000
set_option maxHeartbeats 40000000
namespace Go.Proofs
open Go Go.Mu
variable {S:MC Tryz.prog}
theorem LZ{σ:List aa}{r:Nat}{x:Int}(hg:ai σ r=some (.cells [.int .i64 x]))(hx:0≤x∧x≤2){t:List Int}(ht:t.length=3):ClV S 125 [] [.ptr r 0] σ [tav t] (.int .i64 (tg t x)):=by
 intro σ' hl hs Q hq
 have hg':∀l,ai (σ'++l) r=some (.cells [.int .i64 x]):=fun l=>by rw[aB (by have:=aN hg;omega),hs _ (aN hg)];exact hg
 simp only[List.nil_append,List.cons_append]
 refine ao.jS (E:=Tryz.E (S:=S) 7 (fun _=>([],[])) fs0) (Tryz.ah (S:=S) 7 (fun _=>([],[])) fs0 aD) (.int _ _) (hq) Tryz.MY Tryz.func125 rfl (by kernel_rfl) (by simp[Tryz.E]) (aW.of Tryz.func125 (by kernel_rfl) (by kernel_rfl)) (by kernel_rfl) ?_
 simp only[tav]
 simp -implicitDefEqProofs (maxSteps:=9^9) (disch:=omega) only[go_sem,simprocAttr,hg']
theorem Pn{σ:List aa}{r:Nat}{x:Int}(hg:ai σ r=some (.cells [.int .i64 x]))(hx:0≤x∧x≤2){t:List Int}(ht:t.length=3):ClV S 171 [] [.ptr r 0] σ [tav t] (.int .i64 (tg t x)):=by
 intro σ' hl hs Q hq
 have hg':∀l,ai (σ'++l) r=some (.cells [.int .i64 x]):=fun l=>by rw[aB (by have:=aN hg;omega),hs _ (aN hg)];exact hg
 simp only[List.nil_append,List.cons_append]
 refine ao.jS (E:=Tryz.E (S:=S) 7 (fun _=>([],[])) fs0) (Tryz.ah (S:=S) 7 (fun _=>([],[])) fs0 aD) (.int _ _) (hq) Tryz.Mv Tryz.func171 rfl (by kernel_rfl) (by simp[Tryz.E]) (aW.of Tryz.func171 (by kernel_rfl) (by kernel_rfl)) (by kernel_rfl) ?_
 simp only[tav]
 simp -implicitDefEqProofs (maxSteps:=9^9) (disch:=omega) only[go_sem,simprocAttr,hg']
theorem vP{e:Ear}(h:(cy e).2=0):ck e=0∧aF e≠[]∧cy e=(aF e,0):=by
 unfold cy at h⊢
 split at h
 ·rename_i hc;exact absurd h hc
 ·rename_i hc
  split at h
  ·simp at h
  ·rename_i hn
   refine⟨by simpa using hc,hn,by rw[if_neg hc,if_neg hn]⟩
def cL(e:Ear):List Rng×Int:=if(cy e).2=0 then((List.range e.tones.length).map fun(i:Nat)=>bH (fun t=>tg t i) (aF e),0) else([],(cy e).2)
theorem yX{p:List Rng×Int}:Plain (.tup [.list .no 2 (p.1.map Rng.av),.int .i64 p.2]):= .tup (by simp;exact⟨.map fun x _=>Rng.plain x,.int⟩)
theorem Pr(e:Ear)(h1:e.tones.length≤4294967296)(h2:e.rds.length≤4294967296):al S 76 [e.av] (.tup [.list .no 2 ((cL e).1.map Rng.av),.int .i64 (cL e).2]):=by
 refine PvE (Tryz.ah (S:=S) 30 (fun _=>([],[])) fs8 js) (yX) Tryz.Rc Tryz.func76 rfl ?_
 intro σ
 simp only[Ear.av]
 by_cases hk:(cy e).2=0
 ·obtain⟨hc,hn,hke⟩:=vP hk
  have he:=dQ hc
  have hlen:=he.len
  have htl:=eo he
  simp -implicitDefEqProofs (maxSteps:=9^9) (disch:=omega) only[go_sem,simprocAttr,hke,eI]
  refine aj.ghost 6 2 (sz0:=0) rfl (by simp[ae]) ?_
  simp only[ins,↓reduceIte,List.append_assoc,List.cons_append,List.nil_append,List.length_append,List.length_cons,List.length_nil,Nat.zero_add,Nat.reduceEqDiff]
  refine aj.bE (Tryz.ah (S:=S) 30 (fun _=>([],[])) fs8 js) e.tones.length (fun _=>True) (fun i=>[(6,.list (.own (σ.length+1)) 2 (((List.range i).map fun(i:Nat)=>bH (fun t=>tg t i) (aF e)).map Rng.av)),(19,.int .i64 i)]) (fun i j=>σ++(.cells e.cells:: .tail i 2::j)) [] (by kernel_rfl) (by simp[Ear.cells]) (by simp[upd,ins,aw,ae]) trivial ?_ ?_
  ·intro i j hi _ ih
   simp -implicitDefEqProofs (maxSteps:=9^9) (disch:=omega) only[go_sem,simprocAttr,Ear.cells]
   refine HZ (fun t=>tg t i) (aF e) hn (by omega) (fun t ht=>(ei he t ht).1) (fun t ht=>LZ (x:=i) ?_ (by omega) (ei he t ht).1) _ ?_
   ·rw[aZ];simp
   ·have hfl:∀x:Rng,x.av.flat=true:=fun _=>rfl
    have hcl:∀x:Rng,x.av.cells.length=2:=fun _=>rfl
    have hrl:(List.range i).length=i:=List.length_range
    simp -implicitDefEqProofs (maxSteps:=9^9) (disch:=omega) only[go_sem,simprocAttr,Ear.cells,hfl,hcl,hrl]
    refine(ih trivial (j++[_])).ay rfl (by simp[upd,ins,aw,ae,List.range_succ])
  ·intro j _
   simp -implicitDefEqProofs (maxSteps:=9^9) (disch:=omega) only[go_sem,simprocAttr,Ear.cells]
   simp[cL,hk]
 ·have hk':¬(cy ⟨e.slack,e.tones,e.rds⟩).2=0:=hk
  simp -implicitDefEqProofs (maxSteps:=9^9) (disch:=omega) only[go_sem,simprocAttr,hk']
  simp[cL,hk]
def vj:=jh lp fun e=>if e.tones.length≤4294967296∧e.rds.length≤4294967296 then some (.tup [.list .no 2 ((cL e).1.map Rng.av),.int .i64 (cL e).2]) else none
theorem Kj:∀xs v,vj xs=some v→al S 76 xs v:=
 gB fun e v h=>by have h:=b7 h;rw[← h.2];exact Pr e h.1.1 h.1.2
theorem qC{e:Ear}{w:Int}(h:(c8 e w).2=0):ck e=0∧w=0∧aF e≠[]∧c8 e w=(aF e,0):=by
 unfold c8 at h⊢
 split at h
 ·rename_i hc;exact absurd h hc
 ·rename_i hc
  split at h
  ·rename_i hw;exact absurd h hw
  ·rename_i hw
   obtain⟨h1,h2,h3⟩:=vP h
   exact⟨h1,by simpa using hw,h2,by rw[if_neg hc,if_neg hw,h3]⟩
def fs9(f:FuncId)(xs:List AV):Option AV:=if f=76 then vj xs else fs8 f xs
theorem tq{S:MC Tryz.prog}:∀f xs v,fs9 f xs=some v→al S f xs v:=by
 intro f xs v h
 unfold fs9 at h
 split at h
 ·rename_i e;subst e;exact Kj _ _ h
 exact js _ _ _ h
attribute [go_sem] fs9 vj
end Go.Proofs
