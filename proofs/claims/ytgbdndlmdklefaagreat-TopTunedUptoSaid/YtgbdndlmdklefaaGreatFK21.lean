/- Texts of a proof: lemmas. -/
import Derived.Test.YtgbdndlmdklefaaGreatFK19
import Derived.Test.YtgbdndlmdklefaaGreatFK20
import Derived.Test.YtgbdndlmdklefaaGreatFK12
import Derived.Test.YtgbdndlmdklefaaGreatFK14
set_option linter.unusedSimpArgs false
set_option linter.unusedVariables false
set_option maxRecDepth 100000
set_option maxHeartbeats 40000000
namespace Go.Proofs
open Go Go.Mu Go.Conc
structure Sg where
 hand:Int
 day:Int
 deriving DecidableEq,Inhabited
def Sg.av(x:Sg):AV:= .agg [.int .i64 x.hand,.int .i64 x.day]
theorem Sg.plain(x:Sg):Plain x.av:= .agg (by simp;exact⟨.int,.int⟩)
structure Ros where
 hands:Int
 skill:Int
 mn:Int
 mx:Int
 sets:List Sg
 ents:List Tn
def Ros.av(r:Ros):AV:= .agg [.int .i64 r.hands,.int .i64 r.skill,.int .i64 r.mn,.int .i64 r.mx,.list .no 2 (r.sets.map Sg.av),.list .no 6 (r.ents.map Tn.av)]
theorem Ros.plain(r:Ros):Plain r.av:= .agg (by
 simp only[List.mem_cons,List.not_mem_nil,or_false,forall_eq_or_imp,forall_eq]
 exact⟨.int,.int,.int,.int,.map fun y _=>y.plain,tns_plain _⟩)
def firstNZ:List Int→Int
 | []=>0
 | x::l=>if x=0 then firstNZ l else x
theorem firstNZ_zero:∀{l:List Int},(∀x∈l,x=0)→firstNZ l=0
 | [],_=>rfl
 | x::l,h=>by
  rw[firstNZ,if_pos (h x (by simp))]
  exact firstNZ_zero fun y hy=>h y (by simp[hy])
theorem firstNZ_at:∀{l:List Int} {k:Nat} {v:Int},l[k]? = some v→v≠0→(∀j u,j<k→l[j]? = some u→u=0)→firstNZ l=v
 | [],k,v,h,_,_=>by simp at h
 | x::l,0,v,h,hv,_=>by
  simp at h;subst h
  rw[firstNZ,if_neg hv]
 | x::l,k+1,v,h,hv,hz=>by
  have hx:=hz 0 x (by omega) (by simp)
  rw[firstNZ,if_pos hx]
  exact firstNZ_at (by simpa using h) hv fun j u hj hu=>hz (j+1) u (by omega) (by simpa using hu)
theorem firstNZ_of{g:Nat→Int}{n:Nat}{at_ e1:Int}(h1:∀k,k<n→g k≠0→at_≤k)(h2:(at_=n∧e1=0)∨∃k,k<n∧at_=k∧g k≠0∧e1=g k):e1=firstNZ ((List.range n).map g):=by
 rcases h2 with⟨h2,rfl⟩ | ⟨k,hk,rfl,hne,rfl⟩
 ·refine(firstNZ_zero fun x hx=>?_).symm
  obtain⟨k,hk,rfl⟩:=List.mem_map.1 hx
  have hk':=List.mem_range.1 hk
  exact Classical.byContradiction fun hne=>by have:=h1 k hk' hne;omega
 ·refine(firstNZ_at (k:=k) (by simp[hk]) hne fun j u hj hu=>?_).symm
  rw[List.getElem?_map,List.getElem?_range (by omega)] at hu
  simp at hu;subst hu
  exact Classical.byContradiction fun hne=>by have:=h1 j (by omega) hne;omega
theorem entries_p(ch:Tn→Int→List Int×Int)(r:Ros)(hlen:r.ents.length≤1048576)
  (hchk:∀(V₀:Nat→Prop) (x:Tn),x∈r.ents→∀(Q:AV→List AObj→Prop),(∀σ',Q (.tup [ints1 (ch x r.hands).1,.int .i64 (ch x r.hands).2]) σ')→ACalls (fun M=>M=Co Tryz.prog V₀) 117 [x.av,.int .i64 r.hands] [] Q) :
  PureV SBes 147 [r.av] (.tup [.list .no 1 (r.ents.map fun x=>ints1 (ch x r.hands).1),.int .i64 (firstNZ (r.ents.map fun x=>(ch x r.hands).2))]):=by
 have key:ACalls SBes 147 [r.av] [] fun v _=>Plain v∧v= .tup [.list .no 1 (r.ents.map fun x=>ints1 (ch x r.hands).1),.int .i64 (firstNZ (r.ents.map fun x=>(ch x r.hands).2))]:=by
  refine entries_c (f:=fun k=>ch (r.ents.getD k default) r.hands) hlen (.map fun y _=>y.plain) (fun V₀ i hi Q hQ=>?_) fun at_ e1 σ' h1 h2=>?_
  ·have e:r.ents.getD i default=r.ents[i]:=by rw[List.getD_eq_getElem?_getD,List.getElem?_eq_getElem hi];rfl
   simp only[e] at hQ
   exact hchk V₀ r.ents[i] (List.getElem_mem hi) Q hQ
  ·have e:∀{α:Type} (g:Tn→α),(List.range r.ents.length).map (fun k=>g (r.ents.getD k default))=r.ents.map g:=fun g=>by
    apply List.ext_getElem
    ·simp
    ·intro i h1 h2
     simp at h1 h2⊢
     rw[List.getElem?_eq_getElem h2];rfl
   have he:=firstNZ_of (g:=fun k=>(ch (r.ents.getD k default) r.hands).2) h1 h2
   rw[e fun x=>(ch x r.hands).2] at he
   subst he
   rw[e fun x=>ints1 (ch x r.hands).1]
   refine⟨.tup ?_,rfl⟩
   simp only[List.mem_cons,List.not_mem_nil,or_false,forall_eq_or_imp,forall_eq]
   exact⟨.map fun x _=>Plain.cells_list (ints1_good _).2,.int⟩
 intro σ Q hQ
 refine(ACalls.aside (σ:=σ) (by simp only[List.mem_cons,List.not_mem_nil,or_false,forall_eq];exact r.plain) key).mono fun v σ' ⟨h1,h2⟩=>?_
 subst h1;subst h2;exact hQ
end Go.Proofs
namespace Go.Proofs
open Go Go.Mu
variable {S:MC Tryz.prog}
def in_s:=spec3 tI tI tI fun n lo hi=>some (.bool (decide (lo≤n∧n≤hi)))
theorem in_ok:∀xs v,in_s xs=some v→PureV S 162 xs v:=by
 refine spec3_ok fun n lo hi v h=>?_
 simp only[Option.some.injEq] at h;subst h
 refine PvE (Tryz.envOK (S:=S) 15 (fun _=>([],[])) fs0 fs0_ok) (.bool) Tryz.kp162 Tryz.func162 rfl ?_
 intro σ
 simp only[tI]
 simp -implicitDefEqProofs (maxSteps:=9^9) (disch:=omega) only[go_sem,simprocAttr]
 refine⟨fun h1=>⟨fun h2=>?_,fun h2=>?_⟩,fun h1=>?_⟩<;> simp[h1, *]
def fs1(f:FuncId)(xs:List AV):Option AV:=if f=162 then in_s xs else fs0 f xs
theorem fs1_ok{S:MC Tryz.prog}:∀f xs v,fs1 f xs=some v→PureV S f xs v:=by
 intro f xs v h
 unfold fs1 at h
 split at h
 ·rename_i e;subst e;exact in_ok _ _ h
 exact fs0_ok _ _ _ h
attribute [go_sem] fs1 in_s
theorem ckR_p(r:Rd)(m:Int)(hm:0≤m)(hm':m≤4294967296):PureV S 128 [r.av,.int .i64 m] (.int .i64 (ckR r m)):=by
 refine PvE (Tryz.envOK (S:=S) 82 (fun _=>([],[])) fs1 fs1_ok) (.int) Tryz.kp128 Tryz.func128 rfl ?_
 intro σ
 obtain⟨k,a,b,s,x,y⟩:=r
 simp only[Rd.av]
 rcases(by omega:k=1∨k=2∨k=3∨(k<1∨3<k)) with rfl | rfl | rfl | hk
 ·simp -implicitDefEqProofs (maxSteps:=9^9) (disch:=omega) only[go_sem,simprocAttr]
  simp only[ckR];grind
 ·simp -implicitDefEqProofs (maxSteps:=9^9) (disch:=omega) only[go_sem,simprocAttr]
  simp only[ckR];grind
 ·simp -implicitDefEqProofs (maxSteps:=9^9) (disch:=omega) only[go_sem,simprocAttr]
  simp only[ckR];grind
 ·simp -implicitDefEqProofs (maxSteps:=9^9) (disch:=omega) only[go_sem,simprocAttr]
  simp only[ckR];grind
def ckR_s:=spec2 tRd tI fun r m=>if 0≤m∧m≤4294967296 then some (.int .i64 (ckR r m)) else none
theorem ckR_ok:∀xs v,ckR_s xs=some v→PureV S 128 xs v:=
 spec2_ok fun r m v h=>by have h:=someIf h;rw[← h.2];exact ckR_p r m h.1.1 h.1.2
theorem apart_p(t:List Int)(a b:Int)(ht:t.length=3)(hs:small t)(ha:0≤a∧a≤2)(hb:0≤b∧b≤2):PureV S 230 [tav t,.int .i64 a,.int .i64 b] (.int .i64 (dist (tg t a) (tg t b))):=by
 refine PvE (Tryz.envOK (S:=S) 22 Tryz.ord230 fs1 fs1_ok) (.int) Tryz.kp230 Tryz.func230 rfl ?_
 intro σ
 simp only[tav]
 have h1:=small_tg hs a
 have h2:=small_tg hs b
 simp -implicitDefEqProofs (maxSteps:=9^9) (disch:=omega) only[go_sem,simprocAttr]
 simp only[dist];grind
theorem count_p(r:Rd)(sl:Int)(t:List Int)(ht:t.length=3)(hs:small t)(ha:0≤r.a∧r.a≤2)(hk:r.kind=1)(h1:0≤r.sec∧r.sec≤20)(h2:0≤r.shown.lo∧r.shown.lo≤100000)(h3:0≤r.shown.hi∧r.shown.hi≤100000)(h4:0≤sl∧sl≤3) :
  PureV S 229 [.agg [.int .i64 r.kind,.int .i64 r.a,.int .i64 r.b,.int .i64 r.sec,.int .i64 r.shown.lo,.int .i64 r.shown.hi,.int .i64 sl],tav t] (.bool (isR r sl t)):=by
 refine PvE (Tryz.envOK (S:=S) 39 Tryz.ord229 fs1 fs1_ok) (.bool) Tryz.kp229 Tryz.func229 rfl ?_
 intro σ
 simp only[tav]
 have h5:=small_tg hs r.a
 have h6:0≤tg t r.a*r.sec∧tg t r.a*r.sec≤20000000:=⟨Int.mul_nonneg h5.1 h1.1,by have:=Int.mul_le_mul h5.2 h1.2 h1.1 (by omega);omega⟩
 simp -implicitDefEqProofs (maxSteps:=9^9) (disch:=omega) only[go_sem,simprocAttr]
 simp only[isR,hk];grind
def fs2(f:FuncId)(xs:List AV):Option AV:=if f=128 then ckR_s xs else fs1 f xs
theorem fs2_ok{S:MC Tryz.prog}:∀f xs v,fs2 f xs=some v→PureV S f xs v:=by
 intro f xs v h
 unfold fs2 at h
 split at h
 ·rename_i e;subst e;exact ckR_ok _ _ h
 exact fs1_ok _ _ _ h
attribute [go_sem] fs2 ckR_s
theorem drop_cons{α:Type}{l:List α}{i:Nat}(h:i<l.length):l.drop i=l[i]::l.drop (i+1):=List.drop_eq_getElem_cons h
theorem firstE_drop{α:Type}{f:α→Int}{l:List α}{i:Nat}(h:i<l.length):firstE f (l.drop i)=if f l[i]=0 then firstE f (l.drop (i+1)) else f l[i]:=by rw[drop_cons h];rfl
theorem firstE_end{α:Type}{f:α→Int}{l:List α}:firstE f (l.drop l.length)=0:=by simp[firstE]
theorem check_p(e:Ear)(h1:e.tones.length≤4294967296)(h2:e.rds.length≤4294967296):PureV S 127 [e.av] (.int .i64 (ck e)):=by
 refine PvE (Tryz.envOK (S:=S) 73 (fun _=>([],[])) fs2 fs2_ok) (.int) Tryz.kp127 Tryz.func127 rfl ?_
 intro σ
 obtain⟨s,ts,rs⟩:=e
 simp only[Ear.av] at *
 simp -implicitDefEqProofs (maxSteps:=9^9) (disch:=omega) only[go_sem,simprocAttr]
 refine⟨fun g1 g2=>⟨fun g3=>?_,fun g3=>⟨fun g4=>?_,fun g4=>?_⟩⟩,fun g1=>?_⟩
 ·simp only[ck];grind
 ·simp only[ck];grind
 ·refine ARun.forS (Tryz.envOK (S:=S) 73 (fun _=>([],[])) fs2 fs2_ok) ts.length (fun i=>firstE ckT (ts.drop i)=firstE ckT ts) (fun i=>[(26,.int .i64 i)]) (fun _ j=>σ++(.cells [.int .i64 s,.list .no 2 (ts.map Rng.av),.list .no 6 (rs.map Rd.av)]::j)) [] (by kernel_rfl) rfl (by simp[upd,ins,subF,lookA]) (by simp) ?_ ?_
  ·intro i j hi hp ih
   rw[firstE_drop hi] at hp
   simp -implicitDefEqProofs (maxSteps:=9^9) (disch:=omega) only[go_sem,simprocAttr,Rng.av]
   have hlh:∀a b:Int,1≤a→a≤100000→1≤b→b≤100000→IntKind.i64.wrap (b-a)=b-a:=fun a b _ _ _ _=>wrap64 (by omega) (by omega)
   refine⟨fun q1 q2=>⟨fun q3 q4=>⟨fun q5=>?_,fun q5=>?_⟩,fun q3=>?_⟩,fun q1=>?_⟩
   ·simp only[ckT,ck] at *;grind
   ·rw[hlh _ _ q1 q2 q3 q4]
    refine⟨fun q6=>?_,fun q6=>?_⟩
    ·simp only[ckT,ck] at *;grind
    ·refine(ih (by simp only[ckT] at *;grind) (j++[_])).castS rfl (by simp[upd,ins,subF,lookA])
   ·simp only[ckT,ck] at *;grind
   ·simp only[ckT,ck] at *;grind
  ·intro j hp
   rw[firstE_end] at hp
   simp -implicitDefEqProofs (maxSteps:=9^9) (disch:=omega) only[go_sem,simprocAttr]
   refine⟨fun q1=>?_,fun q1=>?_⟩
   ·simp only[ck];grind
   ·refine ARun.forS (Tryz.envOK (S:=S) 73 (fun _=>([],[])) fs2 fs2_ok) rs.length (fun i=>firstE (fun r=>ckR r ts.length) (rs.drop i)=firstE (fun r=>ckR r ts.length) rs) (fun i=>[(60,.int .i64 i)]) (fun _ j=>σ++(.cells [.int .i64 s,.list .no 2 (ts.map Rng.av),.list .no 6 (rs.map Rd.av)]::j)) j (by kernel_rfl) rfl (by simp[upd,ins,subF,lookA]) (by simp) ?_ ?_
    ·intro i j hi hp ih
     rw[firstE_drop hi] at hp
     simp -implicitDefEqProofs (maxSteps:=9^9) (disch:=omega) only[go_sem,simprocAttr,Rd.av]
     refine⟨fun q2=>?_,fun q2=>?_⟩
     ·simp only[ck];grind
     ·refine(ih (by grind) (j++[_])).castS rfl (by simp[upd,ins,subF,lookA])
    ·intro j hp2
     rw[firstE_end] at hp2
     simp -implicitDefEqProofs (maxSteps:=9^9) (disch:=omega) only[go_sem,simprocAttr]
     simp only[ck];grind
 ·simp only[ck];grind
def check_s:=spec1 tEar fun e=>if e.tones.length≤4294967296∧e.rds.length≤4294967296 then some (.int .i64 (ck e)) else none
theorem check_ok:∀xs v,check_s xs=some v→PureV S 127 xs v:=
 spec1_ok fun e v h=>by have h:=someIf h;rw[← h.2];exact check_p e h.1.1 h.1.2
theorem one_p(e:Ear)(x:Int)(h1:e.tones.length≤4294967296):PureV S 161 [e.av,.int .i64 x] (.int .i64 (if 0≤x∧x≤e.tones.length-1 then 0 else 3)):=by
 refine PvE (Tryz.envOK (S:=S) 12 (fun _=>([],[])) fs2 fs2_ok) (.int) Tryz.kp161 Tryz.func161 rfl ?_
 intro σ
 simp only[Ear.av]
 simp -implicitDefEqProofs (maxSteps:=9^9) (disch:=omega) only[go_sem,simprocAttr]
 grind
def one_s:=spec2 tEar tI fun e x=>if e.tones.length≤4294967296 then some (.int .i64 (if 0≤x∧x≤e.tones.length-1 then 0 else 3)) else none
theorem one_ok:∀xs v,one_s xs=some v→PureV S 161 xs v:=
 spec2_ok fun e x v h=>by have h:=someIf h;rw[← h.2];exact one_p e x h.1
def fs3(f:FuncId)(xs:List AV):Option AV:=if f=127 then check_s xs else if f=161 then one_s xs else fs2 f xs
theorem fs3_ok{S:MC Tryz.prog}:∀f xs v,fs3 f xs=some v→PureV S f xs v:=by
 intro f xs v h
 unfold fs3 at h
 split at h
 ·rename_i e;subst e;exact check_ok _ _ h
 split at h
 ·rename_i e;subst e;exact one_ok _ _ h
 exact fs2_ok _ _ _ h
attribute [go_sem] fs3 check_s one_s
def apart_s:=spec3 tT tI tI fun t a b=>if t.length=3∧small t∧(0≤a∧a≤2)∧(0≤b∧b≤2) then some (.int .i64 (dist (tg t a) (tg t b))) else none
theorem apart_ok:∀xs v,apart_s xs=some v→PureV S 230 xs v:=
 spec3_ok fun t a b v h=>by have h:=someIf h;rw[← h.2];exact apart_p t a b h.1.1 h.1.2.1 h.1.2.2.1 h.1.2.2.2
def fs4(f:FuncId)(xs:List AV):Option AV:=if f=230 then apart_s xs else fs3 f xs
theorem fs4_ok{S:MC Tryz.prog}:∀f xs v,fs4 f xs=some v→PureV S f xs v:=by
 intro f xs v h
 unfold fs4 at h
 split at h
 ·rename_i e;subst e;exact apart_ok _ _ h
 exact fs3_ok _ _ _ h
attribute [go_sem] fs4 apart_s
theorem dist_le{a b:Int}(ha:0≤a∧a≤1000000)(hb:0≤b∧b≤1000000):0≤dist a b∧dist a b≤1000000:=by unfold dist;omega
theorem mul_le{a s:Int}(ha:0≤a∧a≤1000000)(h1:0≤s∧s≤20):0≤a*s∧a*s≤20000000:=
 ⟨Int.mul_nonneg ha.1 h1.1,by have:=Int.mul_le_mul ha.2 h1.2 h1.1 (by omega);omega⟩
theorem beat_p(r:Rd)(t:List Int)(sl:Int)(ht:t.length=3)(hs:small t)(ha:0≤r.a∧r.a≤2)(hb:0≤r.b∧r.b≤2)(hk:r.kind=2)(h1:0≤r.sec∧r.sec≤20)(h2:0≤r.shown.lo∧r.shown.lo≤100000)(h3:0≤r.shown.hi∧r.shown.hi≤100000) :
  PureV S 257 [r.av,tav t] (.bool (isR r sl t)):=by
 refine PvE (Tryz.envOK (S:=S) 28 Tryz.ord257 fs4 fs4_ok) (.bool) Tryz.kp257 Tryz.func257 rfl ?_
 intro σ
 simp only[tav,Rd.av]
 have h6:=mul_le (dist_le (small_tg hs r.a) (small_tg hs r.b)) h1
 simp -implicitDefEqProofs (maxSteps:=9^9) (disch:=omega) only[go_sem,simprocAttr,hs]
 simp only[isR];grind
theorem higher_p(r:Rd)(t:List Int)(sl:Int)(ht:t.length=3)(ha:0≤r.a∧r.a≤2)(hb:0≤r.b∧r.b≤2)(hk:r.kind=3) :
  PureV S 258 [r.av,tav t] (.bool (isR r sl t)):=by
 refine PvE (Tryz.envOK (S:=S) 16 Tryz.ord258 fs4 fs4_ok) (.bool) Tryz.kp258 Tryz.func258 rfl ?_
 intro σ
 simp only[tav,Rd.av]
 simp -implicitDefEqProofs (maxSteps:=9^9) (disch:=omega) only[go_sem,simprocAttr]
 simp only[isR];grind
def rdv(r:Rd)(sl:Int):AV:=
 if r.kind=1 then .iface 252 (.agg [.int .i64 r.kind,.int .i64 r.a,.int .i64 r.b,.int .i64 r.sec,.int .i64 r.shown.lo,.int .i64 r.shown.hi,.int .i64 sl])
 else if r.kind=2 then .iface 254 r.av else .iface 255 r.av
theorem rdv_plain(r:Rd)(sl:Int):Plain (rdv r sl):=by
 unfold rdv
 split
 ·exact .iface (.agg (by simp;exact⟨.int,.int,.int,.int,.int,.int,.int⟩))
 ·split
  ·exact .iface (Rd.plain r)
  ·exact .iface (Rd.plain r)
theorem readingOf_p(r:Rd)(sl:Int):PureV S 169 [r.av,.int .i64 sl] (rdv r sl):=by
 refine PvE (Tryz.envOK (S:=S) 21 (fun _=>([],[])) fs4 fs4_ok) (rdv_plain r sl) Tryz.kp169 Tryz.func169 rfl ?_
 intro σ
 simp only[Rd.av]
 simp -implicitDefEqProofs (maxSteps:=9^9) (disch:=omega) only[go_sem,simprocAttr]
 refine⟨fun h=>?_,fun h=>⟨fun h2=>?_,fun h2=>?_⟩⟩<;> simp[rdv,h, *,wk,wk1,wk0,Rd.av]
def readingOf_s:=spec2 tRd tI fun r sl=>some (rdv r sl)
theorem readingOf_ok:∀xs v,readingOf_s xs=some v→PureV S 169 xs v:=
 spec2_ok fun r sl v h=>by simp only[Option.some.injEq] at h;rw[← h];exact readingOf_p r sl
def decC:AV→Option (Rd×Int)
 | .agg [.int .i64 k,.int .i64 a,.int .i64 b,.int .i64 s,.int .i64 x,.int .i64 y,.int .i64 sl]=>some (⟨k,a,b,s,⟨x,y⟩⟩,sl)
 | _=>none
def tC:Ty (Rd×Int):=⟨decC,fun p=> .agg [.int .i64 p.1.kind,.int .i64 p.1.a,.int .i64 p.1.b,.int .i64 p.1.sec,.int .i64 p.1.shown.lo,.int .i64 p.1.shown.hi,.int .i64 p.2],fun{a x} h=>by
 unfold decC at h;split at h
 ·simp at h;subst h;exact⟨rfl,rfl,rfl,rfl,rfl,rfl,rfl,trivial⟩
 ·cases h⟩
theorem tC_dec{a:AV}:tC.dec a=decC a:=rfl
def count_s:=spec2 tC tT fun p t=>if t.length=3∧small t∧okR p.1∧p.1.kind=1∧(0≤p.2∧p.2≤3) then some (.bool (isR p.1 p.2 t)) else none
theorem count_ok:∀xs v,count_s xs=some v→PureV S 229 xs v:=
 spec2_ok fun p t v h=>by
  obtain⟨⟨a,b,⟨c1,c2,c3,c4,c5,c6⟩,d,e⟩,h⟩:=someIf h
  rw[← h];exact count_p p.1 p.2 t a b c2 d c4 c5 c6 e
def beat_s:=spec2 tRd tT fun r t=>if t.length=3∧small t∧okR r∧r.kind=2 then some (.bool (isR r 0 t)) else none
theorem beat_ok:∀xs v,beat_s xs=some v→PureV S 257 xs v:=
 spec2_ok fun r t v h=>by
  obtain⟨⟨a,b,⟨c1,c2,c3,c4,c5,c6⟩,d⟩,h⟩:=someIf h
  rw[← h];exact beat_p r t 0 a b c2 c3 d c4 c5 c6
def higher_s:=spec2 tRd tT fun r t=>if t.length=3∧okR r∧r.kind=3 then some (.bool (isR r 0 t)) else none
theorem higher_ok:∀xs v,higher_s xs=some v→PureV S 258 xs v:=
 spec2_ok fun r t v h=>by
  obtain⟨⟨a,⟨c1,c2,c3,c4,c5,c6⟩,d⟩,h⟩:=someIf h
  rw[← h];exact higher_p r t 0 a c2 c3 d
def fs5(f:FuncId)(xs:List AV):Option AV:=if f=169 then readingOf_s xs else if f=229 then count_s xs else if f=257 then beat_s xs else if f=258 then higher_s xs else fs4 f xs
theorem fs5_ok{S:MC Tryz.prog}:∀f xs v,fs5 f xs=some v→PureV S f xs v:=by
 intro f xs v h
 unfold fs5 at h
 split at h
 ·rename_i e;subst e;exact readingOf_ok _ _ h
 split at h
 ·rename_i e;subst e;exact count_ok _ _ h
 split at h
 ·rename_i e;subst e;exact beat_ok _ _ h
 split at h
 ·rename_i e;subst e;exact higher_ok _ _ h
 exact fs4_ok _ _ _ h
attribute [go_sem] fs5 readingOf_s count_s beat_s higher_s
theorem isR_slack{r:Rd}{sl:Int}{t:List Int}(h:r.kind≠1):isR r sl t=isR r 0 t:=by simp[isR,h]
theorem invoke_is{N:Nat}{ord:Nat→List Nat×List (Nat×List Nat)}{fs:FuncId→List AV→Option AV}(hf:∀xs,fs 229 xs=count_s xs∧fs 257 xs=beat_s xs∧fs 258 xs=higher_s xs){r:Rd}{sl:Int}{t:List Int}{σ:List AObj}{X:AV→List AObj→Prop}
  (hr:okR r) (hsl:0≤sl∧sl≤3) (ht:t.length=3) (hs:small t):callI (Tryz.E (S:=S) N ord fs) σ X "musette/meter.is" (some (rdv r sl)) (some [.agg (t.map (AV.int .i64))])=giveC X σ (isR r sl t):=by
 have hk:=hr.1
 rcases(by omega:r.kind=1∨r.kind=2∨r.kind=3) with k | k | k
 ·obtain⟨rk,ra,rb,rs,rx,ry⟩:=r
  simp only at k
  subst k
  simp only[rdv,if_true,callI_some,Tryz.Emt,Tryz.mt_count,callM_some,callA_eq,Tryz.Efs,(hf _).1,count_s,spec2,tC_dec,decC,tT_dec,decT_agg,Option.bind_some,ht,hs,hr,hsl,true_and,and_self,if_true,callO_give,giveB_giveC]
 ·simp only[rdv,k,if_true,callI_some,Tryz.Emt,Tryz.mt_beat,callM_some,callA_eq,Tryz.Efs,(hf _).2.1,beat_s,spec2,tRd_dec,decRd_av,tT_dec,decT_agg,Option.bind_some,ht,hs,hr,and_self,if_true,callO_give,giveB_giveC,isR_slack (r:=r) (sl:=sl) (by omega),(by decide:¬(2:Int)=1),if_false]
 ·simp only[rdv,k,if_true,callI_some,Tryz.Emt,Tryz.mt_higher,callM_some,callA_eq,Tryz.Efs,(hf _).2.2,higher_s,spec2,tRd_dec,decRd_av,tT_dec,decT_agg,Option.bind_some,ht,hs,hr,and_self,if_true,callO_give,giveB_giveC,isR_slack (r:=r) (sl:=sl) (by omega),(by decide:¬(3:Int)=1),(by decide:¬(3:Int)=2),if_false]
theorem appendSeq_c{g:FuncId}{p q L:List AV}{σ:List AObj}(hI:Iter S g p q σ L)(hL:L.length≤4294967296)(hf:∀v∈L,∃cs,v= .agg cs∧cs.length=3)(hp:Plain (.list .no 3 L)){Q:AV→List AObj→Prop}(h:Q (.list .no 3 L) σ) :
  ACalls S 202 [.list .full 0 [],.fn (.func g) p q] σ Q:=by
 refine ACalls.clean_ev (E:=Tryz.E (S:=S) 13 (fun _=>([],[])) fs0) (Tryz.envOK (S:=S) 13 (fun _=>([],[])) fs0 fs0_ok) (hp _) (h) Tryz.kp202 Tryz.func202 rfl (by kernel_rfl) (by simp[Tryz.E]) (Callable.of Tryz.func202 (by kernel_rfl) (by kernel_rfl)) (by kernel_rfl) ?_
 simp -implicitDefEqProofs (maxSteps:=9^9) (disch:=omega) only[go_sem,simprocAttr]
 refine ARun.ghostC σ.length 3 (sz0:=0) (by simp[hget_at0]) ?_
 simp only[hset_at0,List.set_cons_zero,List.append_assoc,List.cons_append,List.nil_append,List.length_append,List.length_cons,List.length_nil,Nat.zero_add]
 refine ARun.rangeIter (g:=g) (p:=p) (q:=q) (L:=L) (σ0:=σ) (by simp[aeval,Fr.get,lookA,Tryz.kp202]) hI (by simp) (fun k hk=>hget_app hk) ⟨7,rfl,by simp[Tryz.EN]⟩
  (fun k=>k=σ.length∨k=σ.length+1) (fun k hk=>by simp;omega) (fun D τ=>hget τ σ.length=some (.cells [.list (.own (σ.length+1)) 3 D])∧hget τ (σ.length+1)=some (.tail D.length 3)) (fun _ _=>False)
  (by simp[hget_at0,hget_at]) (fun{D τ τ'} hc hk=>by rw[hk _ (.inl rfl),hk _ (.inr rfl)];exact hc) (fun{j τ τ'} hc _=>hc) ?_ ?_ (fun τ j _ _ hc=>hc.elim)
 ·rintro D v R fn τ hD ⟨c1,c2⟩ hlt hrec
  have hlen:(σ++[AObj.cells [.list (.own (σ.length+1)) 3 []],.tail 0 3]).length=σ.length+2:=by simp
  rw[hlen] at hrec hlt⊢
  obtain⟨cs,rfl,hcs⟩:=hf v (by rw[hD];simp)
  have hcs':List.take 3 cs=cs:=List.take_of_length_le (by omega)
  have hDl:D.length+1≤4294967296:=by have:=congrArg List.length hD;simp at this;omega
  refine ev_sound (Tryz.envOK (S:=S) 13 (fun _=>([],[])) fs0 fs0_ok) (n:=1000) (by kernel_rfl) ?_
  have e0:∀x y z:AV,putAt 0 cs [x,y,z]=cs:=fun x y z=>by simp[putAt,hcs]
  simp -implicitDefEqProofs (maxSteps:=9^9) (disch:=omega) only[go_sem,simprocAttr,frIn,hcs,e0]
  refine ARun.beginRound' (by rw[hget_app (by omega)];exact hrec) fun τ2 hl2 hs2 hr2=>?_
  rw[List.length_append,List.length_singleton] at hl2
  have k1:hget τ2 σ.length=some (.cells [.list (.own (σ.length+1)) 3 D]):=by rw[hs2 _ (by omega),hget_app (by omega)];exact c1
  have k2:hget τ2 (σ.length+1)=some (.tail D.length 3):=by rw[hs2 _ (by omega),hget_app (by omega)];exact c2
  have k3:hget τ2 τ.length=some (.cells cs):=by rw[hs2 _ (by omega)];exact hget_at0
  refine ev_sound (Tryz.envOK (S:=S) 13 (fun _=>([],[])) fs0 fs0_ok) (n:=1000) (by kernel_rfl) ?_
  simp -implicitDefEqProofs (maxSteps:=9^9) (disch:=omega) only[go_sem,simprocAttr,k1,k2,k3,hcs,hcs',hDl,hget_hset]
  refine⟨⟨by simp only[length_hset];omega,fun q hq hm=>?_⟩,none,hr2⟩
  rw[hget_ne (by omega),hget_ne (by omega),hs2 q (by omega),hget_app hq]
 ·rintro τ hlt hold ⟨c1,c2⟩
  refine ev_sound (Tryz.envOK (S:=S) 13 (fun _=>([],[])) fs0 fs0_ok) (n:=1000) (by kernel_rfl) ?_
  simp -implicitDefEqProofs (maxSteps:=9^9) (disch:=omega) only[go_sem,simprocAttr,c1]
  simp only[List.length_append,List.length_cons,List.length_nil] at hlt hold
  exact gives_same (by omega) (fun q hq=>by rw[hold q (by omega) (by omega)];exact hget_app hq) ⟨rfl,.inl rfl,.inl rfl⟩
theorem collect_c{g:FuncId}{p q L:List AV}{σ:List AObj}(hI:Iter S g p q σ L)(hL:L.length≤4294967296)(hf:∀v∈L,∃cs,v= .agg cs∧cs.length=3)(hp:Plain (.list .no 3 L)){Q:AV→List AObj→Prop}(h:Q (.list .no 3 L) σ) :
  ACalls S 158 [.fn (.func g) p q] σ Q:=by
 refine AcE (Tryz.envOK (S:=S) 5 (fun _=>([],[])) fs0 fs0_ok) Tryz.kp158 Tryz.func158 rfl ?_
 simp -implicitDefEqProofs (maxSteps:=9^9) (disch:=omega) only[go_sem,simprocAttr]
 refine appendSeq_c hI hL hf hp ?_
 simp -implicitDefEqProofs (maxSteps:=9^9) (disch:=omega) only[go_sem,simprocAttr,h]
def Ear.cells(e:Ear):List AV:=[.int .i64 e.slack,.list .no 2 (e.tones.map Rng.av),.list .no 6 (e.rds.map Rd.av)]
structure TrO(e:Ear)(M:Nat→Prop)(r re rl ry rn:Nat)(τ:List AObj):Prop where
 e1:hget τ re=some (.cells e.cells)
 l1:∃tk,hget τ rl=some (.cells [.list tk 1 (e.rds.map fun r=>rdv r e.slack)])
 y1:hget τ ry=some (.cells [.yield r])
 n1:hget τ rn=some (.cells [.fn (.func 204) [] [.ptr re 0,.ptr rl 0,.ptr ry 0,.ptr rn 0]])
 m:¬M re∧¬M rl∧¬M ry∧¬M rn
def GiveN{P:Program}{S:MC P}{r:Nat}{L:List AV}(T:Taker S r L)(τ:List AObj)(D:List AV)(v:AV)(τ':List AObj):Prop:=
 Same T.M τ τ'∧(v= .bool true∧T.C D τ'∨v= .bool false∧∃D' v' R',L=D'++v'::R'∧T.St (D'++[v']) τ')
theorem next_c(e:Ear)(he:OkE e):∀(m:Nat) (t:List Int) (a:Nat),t.length=3→small t→a+m=e.tones.length→∀{r re rl ry rn:Nat} {L:List AV} (T:Taker S r L) {τ:List AObj} (D Rest:List AV),TrO e T.M r re rl ry rn τ→T.C D τ→L=D++(allT e m t a).map tav++Rest→
  ACalls S 204 [tav t,.int .i64 a,.ptr re 0,.ptr rl 0,.ptr ry 0,.ptr rn 0] τ (GiveN T τ (D++(allT e m t a).map tav)):=by
 intro m
 induction m with
 | zero=>
  intro t a ht hs ha r re rl ry rn L T τ D Rest hT hC hL
  refine AcE (Tryz.envOK (S:=S) 56 (fun _=>([],[])) fs5 fs5_ok) Tryz.kp204 Tryz.func204 rfl ?_
  simp only[tav]
  have q1:∀l,hget (τ++l) re=some (.cells e.cells):=fun l=>by rw[hget_app (hget_lt hT.e1)];exact hT.e1
  obtain⟨tk,hl1⟩:=hT.l1
  have q2:∀l,hget (τ++l) rl=some (.cells [.list tk 1 (e.rds.map fun r=>rdv r e.slack)]):=fun l=>by rw[hget_app (hget_lt hl1)];exact hl1
  have hlen:=he.len
  have hrl:=he.rl
  have q3:∀l,hget (τ++l) ry=some (.cells [.yield r]):=fun l=>by rw[hget_app (hget_lt hT.y1)];exact hT.y1
  simp -implicitDefEqProofs (maxSteps:=9^9) (disch:=omega) only[go_sem,simprocAttr,q1,q2,Ear.cells]
  refine ARun.forS (Tryz.envOK (S:=S) 56 (fun _=>([],[])) fs5 fs5_ok) e.rds.length (fun i=>(e.rds.take i).all (fun r=>isR r e.slack t)=true) (fun i=>[(19,.int .i64 i)]) (fun _ _=>τ++[.cells (t.map (AV.int .i64))]) [] (by kernel_rfl) rfl (by simp[upd,ins,subF,lookA]) (by simp) ?_ ?_
  ·intro i j hi hp ih'
   have hri:=he.rd _ (List.getElem_mem hi)
   have hinv:=@invoke_is S 56 (fun x=>([],[])) fs5 (fun _=>⟨rfl,rfl,rfl⟩) e.rds[i] e.slack t
   have hcl:(rdv e.rds[i] e.slack).cells=[rdv e.rds[i] e.slack]:=by unfold rdv;split;rfl;split<;> rfl
   cases hb:isR e.rds[i] e.slack t
   ·simp -implicitDefEqProofs (maxSteps:=9^9) (disch:=omega) only[go_sem,simprocAttr,q1,q2,Ear.cells,hcl,hinv hri he.sl ht hs,hb]
    have:allT e 0 t a=[]:=by
     simp only[allT];rw[if_neg];intro h;have:=List.all_eq_true.1 h _ (List.getElem_mem hi);rw[hb] at this;cases this
    rw[this,List.map_nil,List.append_nil]
    exact⟨Same.app,.inl ⟨rfl,T.keep hC (SameOn.app fun q hq=>T.lt hC hq)⟩⟩
   ·simp -implicitDefEqProofs (maxSteps:=9^9) (disch:=omega) only[go_sem,simprocAttr,q1,q2,Ear.cells,hcl,hinv hri he.sl ht hs,hb]
    refine(ih' ?_ []).castS rfl (by simp[upd,ins,subF,lookA])
    rw[List.take_succ_eq_append_getElem hi,List.all_append,hp];simp[hb]
  ·intro j hp
   rw[List.take_length] at hp
   have hall:allT e 0 t a=[t]:=by simp only[allT];rw[if_pos hp]
   rw[hall] at hL⊢
   simp -implicitDefEqProofs (maxSteps:=9^9) (disch:=omega) only[go_sem,simprocAttr,q3,take_map]
   refine(T.take (D:=D) (R:=Rest) (by rw[hL];simp[tav]) (T.keep hC (SameOn.app fun q hq=>T.lt hC hq))).mono fun v τ' hv=>?_
   rcases hv with⟨h1,⟨rfl,h2⟩ | ⟨rfl,h2⟩⟩
   ·simp -implicitDefEqProofs (maxSteps:=9^9) (disch:=omega) only[go_sem,simprocAttr]
    exact⟨Same.app.trans h1,.inl ⟨rfl,h2⟩⟩
   ·simp -implicitDefEqProofs (maxSteps:=9^9) (disch:=omega) only[go_sem,simprocAttr]
    exact⟨Same.app.trans h1,.inr ⟨rfl,D,tav t,Rest,by rw[hL];simp,h2⟩⟩
 | succ m ih=>
  intro t a ht hs ha r re rl ry rn L T τ D Rest hT hC hL
  have hlen:=he.len
  have hal:a<e.tones.length:=by omega
  have hx:=he.tone _ (List.getElem_mem hal)
  have hgd:e.tones.getD a default=e.tones[a]:=by simp[List.getD,List.getElem?_eq_getElem hal]
  generalize hxe:e.tones[a]=x at hx hgd
  have hall:allT e (m+1) t a=(List.range (x.hi-x.lo+1).toNat).flatMap fun(k:Nat)=>allT e m (setI t a (x.lo+k)) (a+1):=by simp only[allT,hgd]
  rw[hall] at hL⊢
  refine AcE (Tryz.envOK (S:=S) 56 (fun _=>([],[])) fs5 fs5_ok) Tryz.kp204 Tryz.func204 rfl ?_
  simp only[tav]
  have hre:=hget_lt hT.e1
  have hrn:=hget_lt hT.n1
  have q1:∀l,hget (τ++l) re=some (.cells e.cells):=fun l=>by rw[hget_app hre];exact hT.e1
  simp -implicitDefEqProofs (maxSteps:=9^9) (disch:=omega) only[go_sem,simprocAttr,q1,Ear.cells,Rng.av,hxe]
  refine ARun.forJ (Tryz.envOK (S:=S) 56 (fun _=>([],[])) fs5 fs5_ok) (x.hi-x.lo+1).toNat (fun i σ'=>∃ti:List Int,ti.length=3∧small ti∧(∀z,setI ti a z=setI t a z)∧hget σ' τ.length=some (.cells (ti.map (AV.int .i64)))∧Same (fun q=>T.M q∨q=τ.length) (τ++[.cells (t.map (AV.int .i64))]) σ'∧T.C (D++((List.range i).flatMap fun(k:Nat)=>allT e m (setI t a (x.lo+k)) (a+1)).map tav) σ') (fun i=>[(11,.int .i64 (x.lo+i))]) (by kernel_rfl) (by simp[upd,ins,subF,lookA]) ?_ ?_ ?_
  ·exact⟨t,ht,hs,fun _=>rfl,hget_at0,Same.refl,by simpa using T.keep hC (SameOn.app fun q hq=>T.lt hC hq)⟩
  ·rintro i σ' hi ⟨ti,h1,h2,h3,h4,h5,h6⟩ ih'
   have hs1:Same (fun q=>T.M q∨q=τ.length) τ σ':=Same.app.trans h5
   have ho:∀{q o},hget τ q=some o→¬T.M q→hget σ' q=some o:=fun h hm=>hs1.get h (fun h'=>by rcases h' with h' | h';exact hm h';have:=hget_lt h;omega)
   have p1:=ho hT.e1 hT.m.1
   have p5:∀o,hget (hset σ' τ.length o) τ.length=some o:=fun o=>hget_set h4 o
   have p6:∀o,hget (hset σ' τ.length o) rn=some (.cells [.fn (.func 204) [] [.ptr re 0,.ptr rl 0,.ptr ry 0,.ptr rn 0]]):=fun o=>by rw[hget_ne (by omega)];exact ho hT.n1 hT.m.2.2.2
   have hset3:=@putAt_set ti (a:Int) (x.lo+i) (by omega) (by omega)
   rw[h3] at hset3
   have hl3:(setI t a (x.lo+i)).length=3:=by rw[setI_len];exact ht
   simp -implicitDefEqProofs (maxSteps:=9^9) (disch:=omega) only[go_sem,simprocAttr,p1,Ear.cells,Rng.av,hxe,h4,p5,p6,h1,h3,setI_len]
   obtain⟨X,hX⟩:=flatMap_part (fun(k:Nat)=>allT e m (setI t a (x.lo+k)) (a+1)) hi
   have hs2:Same (fun q=>T.M q∨q=τ.length) τ (hset σ' τ.length (.cells ((setI t a (x.lo+i)).map (AV.int .i64)))):=hs1.trans ⟨by rw[length_hset];omega,fun q hq hm=>by rw[hget_ne (by omega)]⟩
   have ho2:∀{q o},hget τ q=some o→¬T.M q→hget (hset σ' τ.length (.cells ((setI t a (x.lo+i)).map (AV.int .i64)))) q=some o:=fun h hm=>hs2.get h (fun h'=>by rcases h' with h' | h';exact hm h';have:=hget_lt h;omega)
   have hMt:¬T.M τ.length:=fun h=>by have:=T.lt hC h;omega
   refine ACalls.mono (ih (setI t a (x.lo+i)) (a+1) hl3 (setI_small hs (by omega)) (by omega) T (D++((List.range i).flatMap fun(k:Nat)=>allT e m (setI t a (x.lo+k)) (a+1)).map tav) (X.map tav++Rest) ⟨ho2 hT.e1 hT.m.1,by obtain⟨tk,h⟩:=hT.l1;exact⟨tk,ho2 h hT.m.2.1⟩,ho2 hT.y1 hT.m.2.2.1,ho2 hT.n1 hT.m.2.2.2,hT.m⟩
    (T.keep h6 ⟨by rw[length_hset];omega,fun q hq=>hget_ne (fun e=>hMt (e▸hq))⟩) (by rw[hL,hX];simp)) fun v τ' hv=>?_
   have hsf:Same (fun q=>T.M q∨q=τ.length) (hset σ' τ.length (.cells ((setI t a (x.lo+i)).map (AV.int .i64)))) τ':=⟨hv.1.1,fun q hq hm=>hv.1.2 q hq (fun h=>hm (.inl h))⟩
   have hlen':τ.length<σ'.length:=hget_lt h4
   rcases hv with⟨g1,⟨rfl,g2⟩ | ⟨rfl,g2⟩⟩
   ·simp -implicitDefEqProofs (maxSteps:=9^9) (disch:=omega) only[go_sem,simprocAttr]
    refine(ih' τ' ⟨setI t a (x.lo+i),hl3,setI_small hs (by omega),fun z=>setI_setI,?_,?_,?_⟩).castS rfl (by simp[upd,ins,subF,lookA,Int.add_assoc])
    ·rw[g1.2 _ (by rw[length_hset];exact hlen') hMt];exact hget_set h4 _
    ·refine⟨by have:=g1.1;rw[length_hset] at this;have:=h5.1;omega,fun q hq hm=>?_⟩
     rw[hsf.2 q (by rw[length_hset];have:=h5.1;omega) hm,hget_ne (fun e=>hm (.inr e.symm)),h5.2 q hq hm]
    ·rw[flatMap_succ];simpa using g2
   ·simp -implicitDefEqProofs (maxSteps:=9^9) (disch:=omega) only[go_sem,simprocAttr]
    refine⟨⟨by have:=g1.1;rw[length_hset] at this;have:=hs1.1;omega,fun q hq hm=>?_⟩,.inr ⟨rfl,g2⟩⟩
    rw[g1.2 q (by rw[length_hset];have:=hs1.1;omega) hm,hs2.2 q hq (fun h=>by rcases h with h | h;exact hm h;omega)]
  ·rintro σ' ⟨ti,h1,h2,h3,h4,h5,h6⟩
   have hs1:Same (fun q=>T.M q∨q=τ.length) τ σ':=Same.app.trans h5
   have ho:∀{q o},hget τ q=some o→¬T.M q→hget σ' q=some o:=fun h hm=>hs1.get h (fun h'=>by rcases h' with h' | h';exact hm h';have:=hget_lt h;omega)
   have p1:=ho hT.e1 hT.m.1
   simp -implicitDefEqProofs (maxSteps:=9^9) (disch:=omega) only[go_sem,simprocAttr,p1,Ear.cells,Rng.av,hxe]
   exact⟨⟨hs1.1,fun q hq hm=>hs1.2 q hq (fun h=>by rcases h with h | h;exact hm h;omega)⟩,.inl ⟨rfl,h6⟩⟩
def truthsL(e:Ear):List (List Int):=allT e e.tones.length [0,0,0] 0
theorem allT_ok(e:Ear)(he:OkE e):∀(m:Nat) (t:List Int) (a:Nat),t.length=3→small t→a+m=e.tones.length→∀u∈allT e m t a,u.length=3∧small u:=by
 intro m
 induction m with
 | zero=>
  intro t a h1 h2 h3 u hu
  simp only[allT] at hu
  split at hu
  ·simp at hu;subst hu;exact⟨h1,h2⟩
  ·simp at hu
 | succ m ih=>
  intro t a h1 h2 h3 u hu
  simp only[allT,List.mem_flatMap,List.mem_range] at hu
  obtain⟨k,hk,hu⟩:=hu
  have hal:a<e.tones.length:=by omega
  have hx:=he.tone _ (List.getElem_mem hal)
  have hgd:e.tones.getD a default=e.tones[a]:=by simp[List.getD,List.getElem?_eq_getElem hal]
  rw[hgd] at hk hu
  exact ih _ _ (by rw[setI_len];exact h1) (setI_small h2 (by omega)) (by omega) u hu
theorem truthsL_ok{e:Ear}(he:OkE e):∀u∈truthsL e,u.length=3∧small u:=allT_ok e he _ _ _ rfl (by intro x hx;simp at hx;subst hx;omega) (by omega)
theorem truths1_c(e:Ear)(he:OkE e){r re rl:Nat}{L:List AV}(T:Taker S r L){τ:List AObj}(h1:hget τ re=some (.cells e.cells))(h2:∃tk,hget τ rl=some (.cells [.list tk 1 (e.rds.map fun r=>rdv r e.slack)]))(hm:¬T.M re∧¬T.M rl)(hC:T.C [] τ)(hL:L=(truthsL e).map tav) :
  ACalls S 203 [.yield r,.ptr re 0,.ptr rl 0] τ fun _ τ'=>Same T.M τ τ'∧(T.C L τ'∨∃D v R,L=D++v::R∧T.St (D++[v]) τ'):=by
 subst hL
 refine AcE (Tryz.envOK (S:=S) 9 (fun _=>([],[])) fs5 fs5_ok) Tryz.kp203 Tryz.func203 rfl ?_
 simp -implicitDefEqProofs (maxSteps:=9^9) (disch:=omega) only[go_sem,simprocAttr]
 have hlt:∀q,T.M q→q<τ.length:=fun q hq=>T.lt hC hq
 obtain⟨tk,h2⟩:=h2
 have hb1:=hget_lt h1
 have hb2:=hget_lt h2
 refine(next_c e he e.tones.length [0,0,0] 0 rfl (by intro x hx;simp at hx;subst hx;omega) (by omega) T (r:=r) (re:=re) (rl:=rl) (ry:=τ.length) (rn:=τ.length+1) [] [] ⟨by rw[hget_app hb1];exact h1,⟨tk,by rw[hget_app hb2];exact h2⟩,hget_at0,hget_at,hm.1,hm.2,fun h=>by have:=hlt _ h;omega,fun h=>by have:=hlt _ h;omega⟩ (T.keep hC (SameOn.app hlt)) (by simp[truthsL])).mono fun v τ' hv=>?_
 simp -implicitDefEqProofs (maxSteps:=9^9) (disch:=omega) only[go_sem,simprocAttr]
 refine⟨Same.app.trans hv.1,?_⟩
 rcases hv with⟨_,⟨_,g⟩ | ⟨_,D,v',R,g1,g2⟩⟩
 ·left;simpa[truthsL] using g
 ·right;exact⟨D,v',R,g1,g2⟩
theorem giveB_rdv{X:AV→List AObj→Prop}{σ:List AObj}{r:Rd}{sl:Int}:giveB X σ (some (rdv r sl))=X (rdv r sl) σ:=by rw[giveB_eq];rfl
theorem truths_c(e:Ear)(he:OkE e)(σ:List AObj)(Q:AV→List AObj→Prop)(h:∀re rl junk,Iter S 203 [] [.ptr re 0,.ptr rl 0] (σ++junk) ((truthsL e).map tav)→Q (.fn (.func 203) [] [.ptr re 0,.ptr rl 0]) (σ++junk)) :
  ACalls S 159 [e.av] σ Q:=by
 refine AcE (Tryz.envOK (S:=S) 22 Tryz.ord159 fs5 fs5_ok) Tryz.kp159 Tryz.func159 rfl ?_
 have hrl:=he.rl
 simp only[Ear.av]
 simp -implicitDefEqProofs (maxSteps:=9^9) (disch:=omega) only[go_sem,simprocAttr]
 refine ARun.ghostC (σ.length+1) 1 (sz0:=0) (by simp[hget_at]) ?_
 simp only[hset_at,List.set_cons_succ,List.set_cons_zero,List.append_assoc,List.cons_append,List.nil_append,List.length_append,List.length_cons,List.length_nil,Nat.zero_add]
 refine ARun.forS (Tryz.envOK (S:=S) 22 Tryz.ord159 fs5 fs5_ok) e.rds.length (fun _=>True) (fun i=>[(9,.int .i64 i)]) (fun i j=>σ++(.cells e.cells:: .cells [.list (.own (σ.length+2)) 1 ((e.rds.take i).map fun r=>rdv r e.slack)]:: .tail i 1::j)) [] (by kernel_rfl) (by simp[Ear.cells]) (by simp[upd,ins,subF,lookA]) trivial ?_ ?_
 ·intro i j hi _ ih
  have hcl:∀r,(rdv r e.slack).cells=[rdv r e.slack]:=fun r=>by unfold rdv;split;rfl;split<;> rfl
  have hfl:∀r,(rdv r e.slack).flat=true:=fun r=>by unfold rdv;split;rfl;split<;> rfl
  have htl:(List.take i e.rds).length=i:=by rw[List.length_take];omega
  simp -implicitDefEqProofs (maxSteps:=9^9) (disch:=omega) only[go_sem,simprocAttr,Ear.cells,Rd.av,hcl,hfl,htl,giveB_rdv]
  refine(ih trivial (j++[_])).castS (by rw[List.take_succ_eq_append_getElem hi,List.map_append];rfl) (by simp[upd,ins,subF,lookA])
 ·intro j _
  simp -implicitDefEqProofs (maxSteps:=9^9) (disch:=omega) only[go_sem,simprocAttr,Ear.cells]
  refine h _ _ _ fun r T σ' hk hl hC=>?_
  have:=truths1_c (S:=S) e he T (re:=σ.length) (rl:=σ.length+1) (τ:=σ') (by rw[(hk _ (by simp)).1];simp[hget_at0,Ear.cells]) ⟨_,by rw[(hk _ (by simp)).1,hget_at,List.take_length];rfl⟩ ⟨(hk _ (by simp)).2,(hk _ (by simp)).2⟩ hC rfl
  simpa using this
theorem tavs_agg{e:Ear}(he:OkE e):∀v∈(truthsL e).map tav,∃cs,v= .agg cs∧cs.length=3:=by
 intro v hv
 obtain⟨t,ht,rfl⟩:=List.mem_map.1 hv
 exact⟨_,rfl,by simpa using(truthsL_ok he t ht).1⟩
end Go.Proofs
