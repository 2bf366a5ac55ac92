/- Texts of a proof: lemmas. -/
import Derived.Test.YtgbdndlmdklefaaGreatGK26
import Derived.Test.YtgbdndlmdklefaaGreatGK27
set_option linter.unusedSimpArgs false
set_option linter.unusedVariables false
set_option maxRecDepth 100000
namespace Go.Proofs
open Go Go.Mu Go.Conc
structure Sg where
 hand:Int
 day:Int
 deriving DecidableEq,Inhabited
def Sg.av(x:Sg):AV:= .agg [.int .i64 x.hand,.int .i64 x.day]
theorem Sg.plain(x:Sg):Plain x.av:= .agg (by simp;exact⟨.int,.int⟩)
structure Ros where
 hands:Int
 skill:Int
 mn:Int
 mx:Int
 sets:List Sg
 ents:List Tn
def Ros.av(r:Ros):AV:= .agg [.int .i64 r.hands,.int .i64 r.skill,.int .i64 r.mn,.int .i64 r.mx,.list .no 2 (r.sets.map Sg.av),.list .no 6 (r.ents.map Tn.av)]
theorem Ros.plain(r:Ros):Plain r.av:= .agg (by
 simp only[List.mem_cons,List.not_mem_nil,or_false,forall_eq_or_imp,forall_eq]
 exact⟨.int,.int,.int,.int,.map fun y _=>y.plain,tns_plain _⟩)
def firstNZ:List Int→Int
 | []=>0
 | x::l=>if x=0 then firstNZ l else x
theorem firstNZ_zero:∀{l:List Int},(∀x∈l,x=0)→firstNZ l=0
 | [],_=>rfl
 | x::l,h=>by
  rw[firstNZ,if_pos (h x (by simp))]
  exact firstNZ_zero fun y hy=>h y (by simp[hy])
theorem firstNZ_at:∀{l:List Int} {k:Nat} {v:Int},l[k]? = some v→v≠0→(∀j u,j<k→l[j]? = some u→u=0)→firstNZ l=v
 | [],k,v,h,_,_=>by simp at h
 | x::l,0,v,h,hv,_=>by
  simp at h;subst h
  rw[firstNZ,if_neg hv]
 | x::l,k+1,v,h,hv,hz=>by
  have hx:=hz 0 x (by omega) (by simp)
  rw[firstNZ,if_pos hx]
  exact firstNZ_at (by simpa using h) hv fun j u hj hu=>hz (j+1) u (by omega) (by simpa using hu)
theorem firstNZ_of{g:Nat→Int}{n:Nat}{at_ e1:Int}(h1:∀k,k<n→g k≠0→at_≤k)(h2:(at_=n∧e1=0)∨∃k,k<n∧at_=k∧g k≠0∧e1=g k):e1=firstNZ ((List.range n).map g):=by
 rcases h2 with⟨h2,rfl⟩ | ⟨k,hk,rfl,hne,rfl⟩
 ·refine(firstNZ_zero fun x hx=>?_).symm
  obtain⟨k,hk,rfl⟩:=List.mem_map.1 hx
  have hk':=List.mem_range.1 hk
  exact Classical.byContradiction fun hne=>by have:=h1 k hk' hne;omega
 ·refine(firstNZ_at (k:=k) (by simp[hk]) hne fun j u hj hu=>?_).symm
  rw[List.getElem?_map,List.getElem?_range (by omega)] at hu
  simp at hu;subst hu
  exact Classical.byContradiction fun hne=>by have:=h1 j (by omega) hne;omega
theorem entries_p(ch:Tn→Int→List Int×Int)(r:Ros)(hlen:r.ents.length≤1048576)
  (hchk:∀(V₀:Nat→Prop) (x:Tn),x∈r.ents→∀(Q:AV→List AObj→Prop),(∀σ',Q (.tup [ints1 (ch x r.hands).1,.int .i64 (ch x r.hands).2]) σ')→ACalls (fun M=>M=Co Tryz.prog V₀) 117 [x.av,.int .i64 r.hands] [] Q) :
  PureV SBes 147 [r.av] (.tup [.list .no 1 (r.ents.map fun x=>ints1 (ch x r.hands).1),.int .i64 (firstNZ (r.ents.map fun x=>(ch x r.hands).2))]):=by
 have key:ACalls SBes 147 [r.av] [] fun v _=>Plain v∧v= .tup [.list .no 1 (r.ents.map fun x=>ints1 (ch x r.hands).1),.int .i64 (firstNZ (r.ents.map fun x=>(ch x r.hands).2))]:=by
  refine entries_c (f:=fun k=>ch (r.ents.getD k default) r.hands) hlen (.map fun y _=>y.plain) (fun V₀ i hi Q hQ=>?_) fun at_ e1 σ' h1 h2=>?_
  ·have e:r.ents.getD i default=r.ents[i]:=by rw[List.getD_eq_getElem?_getD,List.getElem?_eq_getElem hi];rfl
   simp only[e] at hQ
   exact hchk V₀ r.ents[i] (List.getElem_mem hi) Q hQ
  ·have e:∀{α:Type} (g:Tn→α),(List.range r.ents.length).map (fun k=>g (r.ents.getD k default))=r.ents.map g:=fun g=>by
    apply List.ext_getElem
    ·simp
    ·intro i h1 h2
     simp at h1 h2⊢
     rw[List.getElem?_eq_getElem h2];rfl
   have he:=firstNZ_of (g:=fun k=>(ch (r.ents.getD k default) r.hands).2) h1 h2
   rw[e fun x=>(ch x r.hands).2] at he
   subst he
   rw[e fun x=>ints1 (ch x r.hands).1]
   refine⟨.tup ?_,rfl⟩
   simp only[List.mem_cons,List.not_mem_nil,or_false,forall_eq_or_imp,forall_eq]
   exact⟨.map fun x _=>Plain.cells_list (ints1_good _).2,.int⟩
 intro σ Q hQ
 refine(ACalls.aside (σ:=σ) (by simp only[List.mem_cons,List.not_mem_nil,or_false,forall_eq];exact r.plain) key).mono fun v σ' ⟨h1,h2⟩=>?_
 subst h1;subst h2;exact hQ
end Go.Proofs
