/- What arguments read as: structs of some fields. -/
import Derived.Test.YtgbdndlmdklefaaGreatHK43
set_option linter.unusedSimpArgs false
set_option linter.unusedVariables false
namespace Go.Mu
open Go Go.ChangeShapes Go.WideShapes
section
variable {H:Type}{enc:TypeId×Value→H}{P:Program}{W:World}
def fieldsOf(P:Program)(t:TypeId):Array Field:=match P.underlying t with
 | some (.struct fs)=>fs
 | _=>#[]
def isStr(P:Program)(t:TypeId):Bool:=match P.underlying t with
 | some (.struct _)=>true
 | _=>false
theorem nn{t:TypeId}(h:isStr P t=true):P.underlying t=some (.struct (fieldsOf P t)):=by
 unfold isStr at h;unfold fieldsOf
 split at h
 ·rename_i fs hq;rw[hq]
 ·cases h
theorem nH{t:TypeId}(hs:isStr P t=true)(hf:∀f∈(fieldsOf P t).toList,gn H enc P W f.type)
  (hc:((List.range (P.cellsOf t)).all fun j=>(fieldsOf P t).toList.any fun f=>decide (f.offset≤j)&&decide (j<f.offset+P.cellsOf f.type))=true):gn H enc P W t:=
 vI (nn hs) hf fun j hj=>by
  have:=List.all_eq_true.1 hc j (by simpa using hj)
  obtain⟨f,h1,h2⟩:=List.any_eq_true.1 this
  simp at h2
  exact⟨f,h1,h2.1,h2.2⟩
def iP(P:Program)(t:TypeId):List (TypeId×Nat):=(fieldsOf P t).toList.map fun f=>(f.type,f.offset)
theorem ea{t:TypeId}{l:List (TypeId×Nat)}(h:iP P t=l){i:Nat}{p:TypeId×Nat}(hp:l[i]? = some p):∃f,(fieldsOf P t)[i]? = some f∧f.type=p.1∧f.offset=p.2:=by
 subst h
 simp only[iP,List.getElem?_map,Option.map_eq_some_iff,Array.getElem?_toList] at hp
 obtain⟨f,h1,rfl⟩:=hp
 exact⟨f,h1,rfl,rfl⟩
theorem wW{t t0 t1 t2:TypeId}{c0 c1 c2:Nat}{α β γ:Type}{g0:α→List AV}{g1:β→List AV}{g2:γ→List AV}{D0:α→DataW H→Prop}{D1:β→DataW H→Prop}{D2:γ→DataW H→Prop}(hs:isStr P t=true)(hl:iP P t=[(t0,0),(t1,c0),(t2,c0+c1)])
  (hc:P.cellsOf t=c0+c1+c2) (hc0:P.cellsOf t0=c0) (hc1:P.cellsOf t1=c1) (hc2:P.cellsOf t2=c2) (h0:bf H enc P W t0 g0 D0) (h1:bf H enc P W t1 g1 D1) (h2:bf H enc P W t2 g2 D2) :
  bf H enc P W t (fun p:α×β×γ=>g0 p.1++g1 p.2.1++g2 p.2.2) (fun p d=>∃d0 d1 d2,d= .agg [d0,d1,d2]∧D0 p.1 d0∧D1 p.2.1 d1∧D2 p.2.2 d2):=fun n cs x h=>by
 obtain⟨xs,m,_,hx,e1,e2,e3⟩:=DataW.trod_struct (nn hs) h
 obtain⟨f0,k0,rfl,o0⟩:=ea hl (i:=0) rfl
 obtain⟨f1,k1,rfl,o1⟩:=ea hl (i:=1) rfl
 obtain⟨f2,k2,rfl,o2⟩:=ea hl (i:=2) rfl
 have hsz:(fieldsOf P t).size=3:=by have:=congrArg List.length hl;simpa[iP] using this
 have hxs:xs.length=3:=by omega
 obtain⟨x0,x1,x2,rfl⟩:∃a b c,xs=[a,b,c]:=by
  match xs,hxs with
  | [a,b,c],_=>exact⟨a,b,c,rfl⟩
 have q0:=e3 0 f0 k0
 have q1:=e3 1 f1 k1
 have q2:=e3 2 f2 k2
 rw[o0,List.drop_zero,hc0] at q0
 rw[o1,hc1] at q1
 rw[o2,hc2] at q2
 obtain⟨a,a1,a2,a3⟩:=h0 _ _ _ q0
 obtain⟨b,b1,b2,b3⟩:=h1 _ _ _ q1
 obtain⟨c,c1',c2',c3⟩:=h2 _ _ _ q2
 have hcs:cs=cs.take c0++(cs.drop c0).take c1++(cs.drop (c0+c1)).take c2:=by
  rw[List.take_of_length_le (l:=cs.drop (c0+c1)) (by simp;omega),List.append_assoc,← List.drop_drop,List.take_append_drop,List.take_append_drop]
 refine⟨(a,b,c),?_,?_,x0.1,x1.1,x2.1,by rw[hx];rfl,a3,b3,c3⟩
 ·rw[hcs];exact(a1.append b1).append c1'
 ·intro v hm;rw[hcs] at hm
  rcases List.mem_append.1 hm with h | h
  ·rcases List.mem_append.1 h with h | h
   ·exact a2 v h
   ·exact b2 v h
  ·exact c2' v h
end
end Go.Mu
namespace Go.Mu
open Go Go.ChangeShapes Go.WideShapes
section
variable {H:Type}{enc:TypeId×Value→H}{P:Program}{W:World}
def US{H:Type}{α:Type}(D:α→DataW H→Prop)(l:List α)(d:DataW H):Prop:=(d= .nil∧l=[])∨∃els sp,d= .slice els sp∧els.length=l.length∧∀i (h:i<l.length),∃y,els[i]? = some y∧D l[i] y
theorem vL{t e:TypeId}{α:Type}{g:α→AV}{D:α→DataW H→Prop}{sz:Nat}(ht:P.underlying t=some (.slice e))(hc:P.cellsOf e=sz)(hz:0<sz)(he:bf H enc P W e (fun a=>(g a).cells) D) :
  bf H enc P W t (fun l:List α=>[AV.list .no sz (l.map g)]) (US D):=fun n cs x h=>by
 rcases DataW.trod_slice ht h with⟨rfl,rfl⟩ | ⟨a,len,cap,elems,rest,m,rfl,rfl,rfl,hb,hl,hm,hlen,hel,_⟩
 ·refine⟨[],⟨rfl,fun i h1 h2=>?_⟩,by simp;rfl,.inl ⟨rfl,rfl⟩⟩
  have:i=0:=by simpa using h1
  subst this
  exact .list .no sz [] none 0 (fun _ _=>undef) (Nat.le_refl _) trivial (fun h=>absurd rfl h) (fun i hi=>by simp at hi) (fun i j hi=>by simp at hi) (fun i j hi=>by simp at hi)
 ·rw[hc] at hel
  have each:∀i,i<len→∃q:α×List Value,(W.cells? 0 (a.add (i*sz)) sz)=some q.2∧VRs (eU W) 0 (g q.1).cells q.2∧(∀c∈q.2,c.oneCell'=true)∧∃y,elems[i]? = some y∧D q.1 y.1:=fun i hi=>by
   have h1:=hel i hi
   rw[List.getElem?_eq_getElem (by omega)] at h1
   obtain⟨c,h2,h3⟩:=Option.bind_eq_some_iff.1 h1
   obtain⟨b,h4,h5,h6⟩:=he _ _ _ h3
   exact⟨(b,c),h2,h4,h5,_,List.getElem?_eq_getElem (by omega),h6⟩
  obtain⟨l,hl1,hl2⟩:=lL len each
  have hcell:∀i (hi:i<l.length),l[i].2.length=sz∧∀j (hj:j<l[i].2.length),W.cell? ((a.add (i*sz)).add j)=some l[i].2[j]:=fun i hi=>by
   have h1:=(hl2 i hi).1
   unfold World.cells? at h1
   rw[if_pos (Nat.zero_le _)] at h1
   have h2:=mapM_some_length h1
   refine⟨by rw[h2];simp,fun j hj=>?_⟩
   have hjs:j<sz:=by
    have:l[i].2.length=sz:=by simpa using h2
    omega
   have h3:=mapM_some_get h1 j j (by simp[hjs])
   rw[h3];exact List.getElem?_eq_getElem hj
  have hlens:∀i (hi:i<l.length),l[i].2.length=sz:=fun i hi=>(hcell i hi).1
  have hadr:0<l.length→∃b o,a=⟨b,o,none⟩:=fun hp=>by
   have h1:=(hcell 0 hp).2 0 (by rw[hlens 0 hp];exact hz)
   have e:(a.add (0*sz)).add 0=a:=by simp[Addr.add]
   rw[e] at h1
   obtain⟨b,o,s⟩:=a
   cases s with
   | none=>exact⟨b,o,rfl⟩
   | some s=>
    simp only[World.cell?,Option.isSome_some,if_true] at h1
    split at h1<;> cases h1
  refine⟨l.map (·.1),⟨rfl,fun i h1 h2=>?_⟩,by simp;rfl,.inr ⟨_,_,rfl,by simp;omega,fun i hi=>?_⟩⟩
  case refine_2=>
   have hi':i<l.length:=by simpa using hi
   obtain⟨y,h6,h7⟩:=(hl2 i hi').2.2.2
   refine⟨y.1,by rw[List.getElem?_map,h6];rfl,?_⟩
   simpa using h7
  have:i=0:=by simpa using h1
  subst this
  have key:VR (eU W) 0 (.list .no sz ((l.map (·.1)).map g)) (.slice (some a) ((l.map (·.1)).map g).length cap):=by
   refine .list .no sz _ (some a) cap (fun i j=>if h:i<l.length then(l[i].2).getD j undef else undef) (by simp;omega) trivial (fun hne=>?_) (fun i hi=>?_) (fun i j hi hj=>?_) (fun i j hi hj=>?_)
   ·have hp:0<l.length:=by
     cases l with
     | nil=>simp at hne
     | cons _ _=>simp
    obtain⟨b,o,rfl⟩:=hadr hp
    refine⟨b,o,rfl,fun i j hi hj=>?_⟩
    have hi':i<l.length:=by simpa using hi
    have h5:=(hcell i hi').2 j (by rw[hlens i hi'];exact hj)
    show W.cell? ⟨b,o+(i*sz+j),none⟩= _
    have e:((⟨b,o,none⟩: Addr).add (i*sz)).add j=⟨b,o+(i*sz+j),none⟩:=by
     unfold Addr.add
     split<;> split<;> simp_all<;> omega
    rw[e] at h5
    rw[h5,dif_pos hi']
    simp[List.getD,List.getElem?_eq_getElem (show j<l[i].2.length by rw[hlens i hi'];exact hj)]
   ·have hi':i<l.length:=by simpa using hi
    have:=(hl2 i hi').2.1.1
    simp only[List.getElem_map]
    rw[this];exact hlens i hi'
   ·have hi':i<l.length:=by simpa using hi
    have hj':j<l[i].2.length:=by rw[hlens i hi'];exact hj
    simp only[dif_pos hi',List.getD,List.getElem?_eq_getElem hj',Option.getD_some]
    exact(hl2 i hi').2.2.1 _ (List.getElem_mem hj')
   ·have hi':i<l.length:=by simpa using hi
    have hv:=(hl2 i hi').2.1
    simp only[List.getElem_map] at hj⊢
    have hj':j<l[i].2.length:=by rw[← hv.1];exact hj
    simp only[dif_pos hi',List.getD,List.getElem?_eq_getElem hj',Option.getD_some]
    exact hv.2 j hj hj'
  simpa[hl1,hlen] using key
end
end Go.Mu
namespace Go.Mu
open Go Go.ChangeShapes Go.WideShapes
section
variable {H:Type}{enc:TypeId×Value→H}{P:Program}{W:World}
theorem xZ{t t0 t1 t2 t3:TypeId}{c0 c1 c2 c3:Nat}{α β γ δ:Type}{g0:α→List AV}{g1:β→List AV}{g2:γ→List AV}{g3:δ→List AV}{D0:α→DataW H→Prop}{D1:β→DataW H→Prop}{D2:γ→DataW H→Prop}{D3:δ→DataW H→Prop}(hs:isStr P t=true)(hl:iP P t=[(t0,0),(t1,c0),(t2,c0+c1),(t3,c0+c1+c2)])
  (hc:P.cellsOf t=c0+c1+c2+c3) (hc0:P.cellsOf t0=c0) (hc1:P.cellsOf t1=c1) (hc2:P.cellsOf t2=c2) (hc3:P.cellsOf t3=c3) (h0:bf H enc P W t0 g0 D0) (h1:bf H enc P W t1 g1 D1) (h2:bf H enc P W t2 g2 D2) (h3:bf H enc P W t3 g3 D3) :
  bf H enc P W t (fun p:α×β×γ×δ=>g0 p.1++g1 p.2.1++g2 p.2.2.1++g3 p.2.2.2) (fun p d=>∃d0 d1 d2 d3,d= .agg [d0,d1,d2,d3]∧D0 p.1 d0∧D1 p.2.1 d1∧D2 p.2.2.1 d2∧D3 p.2.2.2 d3):=fun n cs x h=>by
 obtain⟨xs,m,_,hx,e1,e2,e3⟩:=DataW.trod_struct (nn hs) h
 obtain⟨f0,k0,rfl,o0⟩:=ea hl (i:=0) rfl
 obtain⟨f1,k1,rfl,o1⟩:=ea hl (i:=1) rfl
 obtain⟨f2,k2,rfl,o2⟩:=ea hl (i:=2) rfl
 obtain⟨f3,k3,rfl,o3⟩:=ea hl (i:=3) rfl
 have hsz:(fieldsOf P t).size=4:=by have:=congrArg List.length hl;simpa[iP] using this
 have hxs:xs.length=4:=by omega
 obtain⟨x0,x1,x2,x3,rfl⟩:∃y0 y1 y2 y3,xs=[y0,y1,y2,y3]:=by
  match xs,hxs with
  | [y0,y1,y2,y3],_=>exact⟨y0,y1,y2,y3,rfl⟩
 have q0:=e3 0 f0 k0
 have q1:=e3 1 f1 k1
 have q2:=e3 2 f2 k2
 have q3:=e3 3 f3 k3
 rw[o0,List.drop_zero,hc0] at q0
 rw[o1,hc1] at q1
 rw[o2,hc2] at q2
 rw[o3,hc3] at q3
 obtain⟨v0,a0,b0,r0⟩:=h0 _ _ _ q0
 obtain⟨v1,a1,b1,r1⟩:=h1 _ _ _ q1
 obtain⟨v2,a2,b2,r2⟩:=h2 _ _ _ q2
 obtain⟨v3,a3,b3,r3⟩:=h3 _ _ _ q3
 have hcs:cs=cs.take c0++(cs.drop c0).take c1++(cs.drop (c0+c1)).take c2++(cs.drop (c0+c1+c2)).take c3:=by
  rw[List.take_of_length_le (l:=cs.drop (c0+c1+c2)) (by simp;omega)]
  simp only[List.append_assoc]
  simp only[← List.drop_drop,List.take_append_drop]
 refine⟨(v0,v1,v2,v3),?_,?_,x0.1,x1.1,x2.1,x3.1,by rw[hx];rfl,r0,r1,r2,r3⟩
 ·rw[hcs];exact((a0.append a1).append a2).append a3
 ·intro v hm;rw[hcs] at hm
  simp only[List.mem_append] at hm
  rcases hm with(((h | h) | h) | h)
  ·exact b0 v h
  ·exact b1 v h
  ·exact b2 v h
  ·exact b3 v h
theorem zE{t t0 t1 t2 t3 t4:TypeId}{c0 c1 c2 c3 c4:Nat}{α β γ δ ε:Type}{g0:α→List AV}{g1:β→List AV}{g2:γ→List AV}{g3:δ→List AV}{g4:ε→List AV}{D0:α→DataW H→Prop}{D1:β→DataW H→Prop}{D2:γ→DataW H→Prop}{D3:δ→DataW H→Prop}{D4:ε→DataW H→Prop}(hs:isStr P t=true)(hl:iP P t=[(t0,0),(t1,c0),(t2,c0+c1),(t3,c0+c1+c2),(t4,c0+c1+c2+c3)])
  (hc:P.cellsOf t=c0+c1+c2+c3+c4) (hc0:P.cellsOf t0=c0) (hc1:P.cellsOf t1=c1) (hc2:P.cellsOf t2=c2) (hc3:P.cellsOf t3=c3) (hc4:P.cellsOf t4=c4) (h0:bf H enc P W t0 g0 D0) (h1:bf H enc P W t1 g1 D1) (h2:bf H enc P W t2 g2 D2) (h3:bf H enc P W t3 g3 D3) (h4:bf H enc P W t4 g4 D4) :
  bf H enc P W t (fun p:α×β×γ×δ×ε=>g0 p.1++g1 p.2.1++g2 p.2.2.1++g3 p.2.2.2.1++g4 p.2.2.2.2) (fun p d=>∃d0 d1 d2 d3 d4,d= .agg [d0,d1,d2,d3,d4]∧D0 p.1 d0∧D1 p.2.1 d1∧D2 p.2.2.1 d2∧D3 p.2.2.2.1 d3∧D4 p.2.2.2.2 d4):=fun n cs x h=>by
 obtain⟨xs,m,_,hx,e1,e2,e3⟩:=DataW.trod_struct (nn hs) h
 obtain⟨f0,k0,rfl,o0⟩:=ea hl (i:=0) rfl
 obtain⟨f1,k1,rfl,o1⟩:=ea hl (i:=1) rfl
 obtain⟨f2,k2,rfl,o2⟩:=ea hl (i:=2) rfl
 obtain⟨f3,k3,rfl,o3⟩:=ea hl (i:=3) rfl
 obtain⟨f4,k4,rfl,o4⟩:=ea hl (i:=4) rfl
 have hsz:(fieldsOf P t).size=5:=by have:=congrArg List.length hl;simpa[iP] using this
 have hxs:xs.length=5:=by omega
 obtain⟨x0,x1,x2,x3,x4,rfl⟩:∃y0 y1 y2 y3 y4,xs=[y0,y1,y2,y3,y4]:=by
  match xs,hxs with
  | [y0,y1,y2,y3,y4],_=>exact⟨y0,y1,y2,y3,y4,rfl⟩
 have q0:=e3 0 f0 k0
 have q1:=e3 1 f1 k1
 have q2:=e3 2 f2 k2
 have q3:=e3 3 f3 k3
 have q4:=e3 4 f4 k4
 rw[o0,List.drop_zero,hc0] at q0
 rw[o1,hc1] at q1
 rw[o2,hc2] at q2
 rw[o3,hc3] at q3
 rw[o4,hc4] at q4
 obtain⟨v0,a0,b0,r0⟩:=h0 _ _ _ q0
 obtain⟨v1,a1,b1,r1⟩:=h1 _ _ _ q1
 obtain⟨v2,a2,b2,r2⟩:=h2 _ _ _ q2
 obtain⟨v3,a3,b3,r3⟩:=h3 _ _ _ q3
 obtain⟨v4,a4,b4,r4⟩:=h4 _ _ _ q4
 have hcs:cs=cs.take c0++(cs.drop c0).take c1++(cs.drop (c0+c1)).take c2++(cs.drop (c0+c1+c2)).take c3++(cs.drop (c0+c1+c2+c3)).take c4:=by
  rw[List.take_of_length_le (l:=cs.drop (c0+c1+c2+c3)) (by simp;omega)]
  simp only[List.append_assoc]
  simp only[← List.drop_drop,List.take_append_drop]
 refine⟨(v0,v1,v2,v3,v4),?_,?_,x0.1,x1.1,x2.1,x3.1,x4.1,by rw[hx];rfl,r0,r1,r2,r3,r4⟩
 ·rw[hcs];exact(((a0.append a1).append a2).append a3).append a4
 ·intro v hm;rw[hcs] at hm
  simp only[List.mem_append] at hm
  rcases hm with((((h | h) | h) | h) | h)
  ·exact b0 v h
  ·exact b1 v h
  ·exact b2 v h
  ·exact b3 v h
  ·exact b4 v h
end
end Go.Mu
