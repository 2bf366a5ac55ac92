/- Texts of a proof: lemmas. -/
import Derived.Test.YtgbdndlmdklefaaGreatHK20
import Derived.Test.YtgbdndlmdklefaaGreatHK21
import Derived.Test.YtgbdndlmdklefaaGreatHK13
import Derived.Test.YtgbdndlmdklefaaGreatHK15
set_option linter.unusedSimpArgs false
set_option linter.unusedVariables false
set_option maxRecDepth 100000
set_option maxHeartbeats 40000000
namespace Go.Proofs
open Go Go.Mu Go.Conc
structure Sg where
 hand:Int
 day:Int
 deriving DecidableEq,Inhabited
def Sg.av(x:Sg):AV:= .agg [.int .i64 x.hand,.int .i64 x.day]
theorem Sg.plain(x:Sg):Plain x.av:= .agg (by simp;exact⟨.int,.int⟩)
structure Ros where
 hands:Int
 skill:Int
 mn:Int
 mx:Int
 sets:List Sg
 ents:List Tn
def Ros.av(r:Ros):AV:= .agg [.int .i64 r.hands,.int .i64 r.skill,.int .i64 r.mn,.int .i64 r.mx,.list .no 2 (r.sets.map Sg.av),.list .no 6 (r.ents.map Tn.av)]
theorem Ros.plain(r:Ros):Plain r.av:= .agg (by
 simp only[List.mem_cons,List.not_mem_nil,or_false,forall_eq_or_imp,forall_eq]
 exact⟨.int,.int,.int,.int,.map fun y _=>y.plain,ky _⟩)
def bn:List Int→Int
 | []=>0
 | x::l=>if x=0 then bn l else x
theorem pO:∀{l:List Int},(∀x∈l,x=0)→bn l=0
 | [],_=>rfl
 | x::l,h=>by
  rw[bn,if_pos (h x (by simp))]
  exact pO fun y hy=>h y (by simp[hy])
theorem tU:∀{l:List Int} {k:Nat} {v:Int},l[k]? = some v→v≠0→(∀j u,j<k→l[j]? = some u→u=0)→bn l=v
 | [],k,v,h,_,_=>by simp at h
 | x::l,0,v,h,hv,_=>by
  simp at h;subst h
  rw[bn,if_neg hv]
 | x::l,k+1,v,h,hv,hz=>by
  have hx:=hz 0 x (by omega) (by simp)
  rw[bn,if_pos hx]
  exact tU (by simpa using h) hv fun j u hj hu=>hz (j+1) u (by omega) (by simpa using hu)
theorem Ck{g:Nat→Int}{n:Nat}{at_ e1:Int}(h1:∀k,k<n→g k≠0→at_≤k)(h2:(at_=n∧e1=0)∨∃k,k<n∧at_=k∧g k≠0∧e1=g k):e1=bn ((List.range n).map g):=by
 rcases h2 with⟨h2,rfl⟩ | ⟨k,hk,rfl,hne,rfl⟩
 ·refine(pO fun x hx=>?_).symm
  obtain⟨k,hk,rfl⟩:=List.mem_map.1 hx
  have hk':=List.mem_range.1 hk
  exact Classical.byContradiction fun hne=>by have:=h1 k hk' hne;omega
 ·refine(tU (k:=k) (by simp[hk]) hne fun j u hj hu=>?_).symm
  rw[List.getElem?_map,List.getElem?_range (by omega)] at hu
  simp at hu;subst hu
  exact Classical.byContradiction fun hne=>by have:=h1 j (by omega) hne;omega
theorem GH(ch:Tn→Int→List Int×Int)(r:Ros)(hlen:r.ents.length≤1048576)
  (hchk:∀(V₀:Nat→Prop) (x:Tn),x∈r.ents→∀(Q:AV→List aa→Prop),(∀σ',Q (.tup [ar (ch x r.hands).1,.int .i64 (ch x r.hands).2]) σ')→ao (fun M=>M=Co Tryz.prog V₀) 117 [x.av,.int .i64 r.hands] [] Q) :
  al aV 147 [r.av] (.tup [.list .no 1 (r.ents.map fun x=>ar (ch x r.hands).1),.int .i64 (bn (r.ents.map fun x=>(ch x r.hands).2))]):=by
 have key:ao aV 147 [r.av] [] fun v _=>Plain v∧v= .tup [.list .no 1 (r.ents.map fun x=>ar (ch x r.hands).1),.int .i64 (bn (r.ents.map fun x=>(ch x r.hands).2))]:=by
  refine IM (f:=fun k=>ch (r.ents.getD k default) r.hands) hlen (.map fun y _=>y.plain) (fun V₀ i hi Q hQ=>?_) fun at_ e1 σ' h1 h2=>?_
  ·have e:r.ents.getD i default=r.ents[i]:=by rw[List.getD_eq_getElem?_getD,List.getElem?_eq_getElem hi];rfl
   simp only[e] at hQ
   exact hchk V₀ r.ents[i] (List.getElem_mem hi) Q hQ
  ·have e:∀{α:Type} (g:Tn→α),(List.range r.ents.length).map (fun k=>g (r.ents.getD k default))=r.ents.map g:=fun g=>by
    apply List.ext_getElem
    ·simp
    ·intro i h1 h2
     simp at h1 h2⊢
     rw[List.getElem?_eq_getElem h2];rfl
   have he:=Ck (g:=fun k=>(ch (r.ents.getD k default) r.hands).2) h1 h2
   rw[e fun x=>(ch x r.hands).2] at he
   subst he
   rw[e fun x=>ar (ch x r.hands).1]
   refine⟨.tup ?_,rfl⟩
   simp only[List.mem_cons,List.not_mem_nil,or_false,forall_eq_or_imp,forall_eq]
   exact⟨.map fun x _=>Plain.fY (cA _).2,.int⟩
 intro σ Q hQ
 refine(ao.aside (σ:=σ) (by simp only[List.mem_cons,List.not_mem_nil,or_false,forall_eq];exact r.plain) key).mono fun v σ' ⟨h1,h2⟩=>?_
 subst h1;subst h2;exact hQ
end Go.Proofs
namespace Go.Proofs
open Go Go.Mu
variable {S:MC Tryz.prog}
def JD:=jk tI tI tI fun n lo hi=>some (.bool (decide (lo≤n∧n≤hi)))
theorem TY:∀xs v,JD xs=some v→al S 162 xs v:=by
 refine gM fun n lo hi v h=>?_
 simp only[Option.some.injEq] at h;subst h
 refine PvE (Tryz.ah (S:=S) 15 (fun _=>([],[])) fs0 aD) (.bool) Tryz.Mh Tryz.func162 rfl ?_
 intro σ
 simp only[tI]
 simp -implicitDefEqProofs (maxSteps:=9^9) (disch:=omega) only[go_sem,simprocAttr]
 refine⟨fun h1=>⟨fun h2=>?_,fun h2=>?_⟩,fun h1=>?_⟩<;> simp[h1, *]
def fs1(f:FuncId)(xs:List AV):Option AV:=if f=162 then JD xs else fs0 f xs
theorem ql{S:MC Tryz.prog}:∀f xs v,fs1 f xs=some v→al S f xs v:=by
 intro f xs v h
 unfold fs1 at h
 split at h
 ·rename_i e;subst e;exact TY _ _ h
 exact aD _ _ _ h
attribute [go_sem] fs1 JD
theorem TT(r:Rd)(m:Int)(hm:0≤m)(hm':m≤4294967296):al S 128 [r.av,.int .i64 m] (.int .i64 (ckR r m)):=by
 refine PvE (Tryz.ah (S:=S) 82 (fun _=>([],[])) fs1 ql) (.int) Tryz.NP Tryz.func128 rfl ?_
 intro σ
 obtain⟨k,a,b,s,x,y⟩:=r
 simp only[Rd.av]
 rcases(by omega:k=1∨k=2∨k=3∨(k<1∨3<k)) with rfl | rfl | rfl | hk
 ·simp -implicitDefEqProofs (maxSteps:=9^9) (disch:=omega) only[go_sem,simprocAttr]
  simp only[ckR];grind
 ·simp -implicitDefEqProofs (maxSteps:=9^9) (disch:=omega) only[go_sem,simprocAttr]
  simp only[ckR];grind
 ·simp -implicitDefEqProofs (maxSteps:=9^9) (disch:=omega) only[go_sem,simprocAttr]
  simp only[ckR];grind
 ·simp -implicitDefEqProofs (maxSteps:=9^9) (disch:=omega) only[go_sem,simprocAttr]
  simp only[ckR];grind
def El:=cW tRd tI fun r m=>if 0≤m∧m≤4294967296 then some (.int .i64 (ckR r m)) else none
theorem Qj:∀xs v,El xs=some v→al S 128 xs v:=
 cj fun r m v h=>by have h:=b7 h;rw[← h.2];exact TT r m h.1.1 h.1.2
theorem Pv(t:List Int)(a b:Int)(ht:t.length=3)(hs:small t)(ha:0≤a∧a≤2)(hb:0≤b∧b≤2):al S 230 [tav t,.int .i64 a,.int .i64 b] (.int .i64 (im (tg t a) (tg t b))):=by
 refine PvE (Tryz.ah (S:=S) 22 Tryz.IS fs1 ql) (.int) Tryz.Ni Tryz.func230 rfl ?_
 intro σ
 simp only[tav]
 have h1:=dZ hs a
 have h2:=dZ hs b
 simp -implicitDefEqProofs (maxSteps:=9^9) (disch:=omega) only[go_sem,simprocAttr]
 simp only[im];grind
theorem OS(r:Rd)(sl:Int)(t:List Int)(ht:t.length=3)(hs:small t)(ha:0≤r.a∧r.a≤2)(hk:r.kind=1)(h1:0≤r.sec∧r.sec≤20)(h2:0≤r.shown.lo∧r.shown.lo≤100000)(h3:0≤r.shown.hi∧r.shown.hi≤100000)(h4:0≤sl∧sl≤3) :
  al S 229 [.agg [.int .i64 r.kind,.int .i64 r.a,.int .i64 r.b,.int .i64 r.sec,.int .i64 r.shown.lo,.int .i64 r.shown.hi,.int .i64 sl],tav t] (.bool (isR r sl t)):=by
 refine PvE (Tryz.ah (S:=S) 39 Tryz.GY fs1 ql) (.bool) Tryz.Nb Tryz.func229 rfl ?_
 intro σ
 simp only[tav]
 have h5:=dZ hs r.a
 have h6:0≤tg t r.a*r.sec∧tg t r.a*r.sec≤20000000:=⟨Int.mul_nonneg h5.1 h1.1,by have:=Int.mul_le_mul h5.2 h1.2 h1.1 (by omega);omega⟩
 simp -implicitDefEqProofs (maxSteps:=9^9) (disch:=omega) only[go_sem,simprocAttr]
 simp only[isR,hk];grind
def fs2(f:FuncId)(xs:List AV):Option AV:=if f=128 then El xs else fs1 f xs
theorem o9{S:MC Tryz.prog}:∀f xs v,fs2 f xs=some v→al S f xs v:=by
 intro f xs v h
 unfold fs2 at h
 split at h
 ·rename_i e;subst e;exact Qj _ _ h
 exact ql _ _ _ h
attribute [go_sem] fs2 El
theorem drop_cons{α:Type}{l:List α}{i:Nat}(h:i<l.length):l.drop i=l[i]::l.drop (i+1):=List.drop_eq_getElem_cons h
theorem fu{α:Type}{f:α→Int}{l:List α}{i:Nat}(h:i<l.length):bM f (l.drop i)=if f l[i]=0 then bM f (l.drop (i+1)) else f l[i]:=by rw[drop_cons h];rfl
theorem fV{α:Type}{f:α→Int}{l:List α}:bM f (l.drop l.length)=0:=by simp[bM]
theorem BU(e:Ear)(h1:e.tones.length≤4294967296)(h2:e.rds.length≤4294967296):al S 127 [e.av] (.int .i64 (ck e)):=by
 refine PvE (Tryz.ah (S:=S) 73 (fun _=>([],[])) fs2 o9) (.int) Tryz.MP Tryz.func127 rfl ?_
 intro σ
 obtain⟨s,ts,rs⟩:=e
 simp only[Ear.av] at *
 simp -implicitDefEqProofs (maxSteps:=9^9) (disch:=omega) only[go_sem,simprocAttr]
 refine⟨fun g1 g2=>⟨fun g3=>?_,fun g3=>⟨fun g4=>?_,fun g4=>?_⟩⟩,fun g1=>?_⟩
 ·simp only[ck];grind
 ·simp only[ck];grind
 ·refine aj.bE (Tryz.ah (S:=S) 73 (fun _=>([],[])) fs2 o9) ts.length (fun i=>bM ckT (ts.drop i)=bM ckT ts) (fun i=>[(26,.int .i64 i)]) (fun _ j=>σ++(.cells [.int .i64 s,.list .no 2 (ts.map Rng.av),.list .no 6 (rs.map Rd.av)]::j)) [] (by kernel_rfl) rfl (by simp[upd,ins,aw,ae]) (by simp) ?_ ?_
  ·intro i j hi hp ih
   rw[fu hi] at hp
   simp -implicitDefEqProofs (maxSteps:=9^9) (disch:=omega) only[go_sem,simprocAttr,Rng.av]
   have hlh:∀a b:Int,1≤a→a≤100000→1≤b→b≤100000→IntKind.i64.wrap (b-a)=b-a:=fun a b _ _ _ _=>wrap64 (by omega) (by omega)
   refine⟨fun q1 q2=>⟨fun q3 q4=>⟨fun q5=>?_,fun q5=>?_⟩,fun q3=>?_⟩,fun q1=>?_⟩
   ·simp only[ckT,ck] at *;grind
   ·rw[hlh _ _ q1 q2 q3 q4]
    refine⟨fun q6=>?_,fun q6=>?_⟩
    ·simp only[ckT,ck] at *;grind
    ·refine(ih (by simp only[ckT] at *;grind) (j++[_])).ay rfl (by simp[upd,ins,aw,ae])
   ·simp only[ckT,ck] at *;grind
   ·simp only[ckT,ck] at *;grind
  ·intro j hp
   rw[fV] at hp
   simp -implicitDefEqProofs (maxSteps:=9^9) (disch:=omega) only[go_sem,simprocAttr]
   refine⟨fun q1=>?_,fun q1=>?_⟩
   ·simp only[ck];grind
   ·refine aj.bE (Tryz.ah (S:=S) 73 (fun _=>([],[])) fs2 o9) rs.length (fun i=>bM (fun r=>ckR r ts.length) (rs.drop i)=bM (fun r=>ckR r ts.length) rs) (fun i=>[(60,.int .i64 i)]) (fun _ j=>σ++(.cells [.int .i64 s,.list .no 2 (ts.map Rng.av),.list .no 6 (rs.map Rd.av)]::j)) j (by kernel_rfl) rfl (by simp[upd,ins,aw,ae]) (by simp) ?_ ?_
    ·intro i j hi hp ih
     rw[fu hi] at hp
     simp -implicitDefEqProofs (maxSteps:=9^9) (disch:=omega) only[go_sem,simprocAttr,Rd.av]
     refine⟨fun q2=>?_,fun q2=>?_⟩
     ·simp only[ck];grind
     ·refine(ih (by grind) (j++[_])).ay rfl (by simp[upd,ins,aw,ae])
    ·intro j hp2
     rw[fV] at hp2
     simp -implicitDefEqProofs (maxSteps:=9^9) (disch:=omega) only[go_sem,simprocAttr]
     simp only[ck];grind
 ·simp only[ck];grind
def uY:=jh lp fun e=>if e.tones.length≤4294967296∧e.rds.length≤4294967296 then some (.int .i64 (ck e)) else none
theorem LS:∀xs v,uY xs=some v→al S 127 xs v:=
 gB fun e v h=>by have h:=b7 h;rw[← h.2];exact BU e h.1.1 h.1.2
theorem T7(e:Ear)(x:Int)(h1:e.tones.length≤4294967296):al S 161 [e.av,.int .i64 x] (.int .i64 (if 0≤x∧x≤e.tones.length-1 then 0 else 3)):=by
 refine PvE (Tryz.ah (S:=S) 12 (fun _=>([],[])) fs2 o9) (.int) Tryz.MV Tryz.func161 rfl ?_
 intro σ
 simp only[Ear.av]
 simp -implicitDefEqProofs (maxSteps:=9^9) (disch:=omega) only[go_sem,simprocAttr]
 grind
def E7:=cW lp tI fun e x=>if e.tones.length≤4294967296 then some (.int .i64 (if 0≤x∧x≤e.tones.length-1 then 0 else 3)) else none
theorem R1:∀xs v,E7 xs=some v→al S 161 xs v:=
 cj fun e x v h=>by have h:=b7 h;rw[← h.2];exact T7 e x h.1
def fs3(f:FuncId)(xs:List AV):Option AV:=if f=127 then uY xs else if f=161 then E7 xs else fs2 f xs
theorem Sb{S:MC Tryz.prog}:∀f xs v,fs3 f xs=some v→al S f xs v:=by
 intro f xs v h
 unfold fs3 at h
 split at h
 ·rename_i e;subst e;exact LS _ _ h
 split at h
 ·rename_i e;subst e;exact R1 _ _ h
 exact o9 _ _ _ h
attribute [go_sem] fs3 uY E7
def uS:=jk tT tI tI fun t a b=>if t.length=3∧small t∧(0≤a∧a≤2)∧(0≤b∧b≤2) then some (.int .i64 (im (tg t a) (tg t b))) else none
theorem Kv:∀xs v,uS xs=some v→al S 230 xs v:=
 gM fun t a b v h=>by have h:=b7 h;rw[← h.2];exact Pv t a b h.1.1 h.1.2.1 h.1.2.2.1 h.1.2.2.2
def fs4(f:FuncId)(xs:List AV):Option AV:=if f=230 then uS xs else fs3 f xs
theorem sJ{S:MC Tryz.prog}:∀f xs v,fs4 f xs=some v→al S f xs v:=by
 intro f xs v h
 unfold fs4 at h
 split at h
 ·rename_i e;subst e;exact Kv _ _ h
 exact Sb _ _ _ h
attribute [go_sem] fs4 uS
theorem vh{a b:Int}(ha:0≤a∧a≤1000000)(hb:0≤b∧b≤1000000):0≤im a b∧im a b≤1000000:=by unfold im;omega
theorem pD{a s:Int}(ha:0≤a∧a≤1000000)(h1:0≤s∧s≤20):0≤a*s∧a*s≤20000000:=
 ⟨Int.mul_nonneg ha.1 h1.1,by have:=Int.mul_le_mul ha.2 h1.2 h1.1 (by omega);omega⟩
theorem Q6(r:Rd)(t:List Int)(sl:Int)(ht:t.length=3)(hs:small t)(ha:0≤r.a∧r.a≤2)(hb:0≤r.b∧r.b≤2)(hk:r.kind=2)(h1:0≤r.sec∧r.sec≤20)(h2:0≤r.shown.lo∧r.shown.lo≤100000)(h3:0≤r.shown.hi∧r.shown.hi≤100000) :
  al S 257 [r.av,tav t] (.bool (isR r sl t)):=by
 refine PvE (Tryz.ah (S:=S) 28 Tryz.FB fs4 sJ) (.bool) Tryz.Mf Tryz.func257 rfl ?_
 intro σ
 simp only[tav,Rd.av]
 have h6:=pD (vh (dZ hs r.a) (dZ hs r.b)) h1
 simp -implicitDefEqProofs (maxSteps:=9^9) (disch:=omega) only[go_sem,simprocAttr,hs]
 simp only[isR];grind
theorem JY(r:Rd)(t:List Int)(sl:Int)(ht:t.length=3)(ha:0≤r.a∧r.a≤2)(hb:0≤r.b∧r.b≤2)(hk:r.kind=3) :
  al S 258 [r.av,tav t] (.bool (isR r sl t)):=by
 refine PvE (Tryz.ah (S:=S) 16 Tryz.Fq fs4 sJ) (.bool) Tryz.Mw Tryz.func258 rfl ?_
 intro σ
 simp only[tav,Rd.av]
 simp -implicitDefEqProofs (maxSteps:=9^9) (disch:=omega) only[go_sem,simprocAttr]
 simp only[isR];grind
def rdv(r:Rd)(sl:Int):AV:=
 if r.kind=1 then .iface 252 (.agg [.int .i64 r.kind,.int .i64 r.a,.int .i64 r.b,.int .i64 r.sec,.int .i64 r.shown.lo,.int .i64 r.shown.hi,.int .i64 sl])
 else if r.kind=2 then .iface 254 r.av else .iface 255 r.av
theorem Fj(r:Rd)(sl:Int):Plain (rdv r sl):=by
 unfold rdv
 split
 ·exact .iface (.agg (by simp;exact⟨.int,.int,.int,.int,.int,.int,.int⟩))
 ·split
  ·exact .iface (Rd.plain r)
  ·exact .iface (Rd.plain r)
theorem Bo(r:Rd)(sl:Int):al S 169 [r.av,.int .i64 sl] (rdv r sl):=by
 refine PvE (Tryz.ah (S:=S) 21 (fun _=>([],[])) fs4 sJ) (Fj r sl) Tryz.ME Tryz.func169 rfl ?_
 intro σ
 simp only[Rd.av]
 simp -implicitDefEqProofs (maxSteps:=9^9) (disch:=omega) only[go_sem,simprocAttr]
 refine⟨fun h=>?_,fun h=>⟨fun h2=>?_,fun h2=>?_⟩⟩<;> simp[rdv,h, *,wk,wk1,wk0,Rd.av]
def mR:=cW tRd tI fun r sl=>some (rdv r sl)
theorem x7:∀xs v,mR xs=some v→al S 169 xs v:=
 cj fun r sl v h=>by simp only[Option.some.injEq] at h;rw[← h];exact Bo r sl
def vu:AV→Option (Rd×Int)
 | .agg [.int .i64 k,.int .i64 a,.int .i64 b,.int .i64 s,.int .i64 x,.int .i64 y,.int .i64 sl]=>some (⟨k,a,b,s,⟨x,y⟩⟩,sl)
 | _=>none
def tC:Ty (Rd×Int):=⟨vu,fun p=> .agg [.int .i64 p.1.kind,.int .i64 p.1.a,.int .i64 p.1.b,.int .i64 p.1.sec,.int .i64 p.1.shown.lo,.int .i64 p.1.shown.hi,.int .i64 p.2],fun{a x} h=>by
 unfold vu at h;split at h
 ·simp at h;subst h;exact⟨rfl,rfl,rfl,rfl,rfl,rfl,rfl,trivial⟩
 ·cases h⟩
theorem sS{a:AV}:tC.dec a=vu a:=rfl
def nA:=cW tC tT fun p t=>if t.length=3∧small t∧okR p.1∧p.1.kind=1∧(0≤p.2∧p.2≤3) then some (.bool (isR p.1 p.2 t)) else none
theorem Jn:∀xs v,nA xs=some v→al S 229 xs v:=
 cj fun p t v h=>by
  obtain⟨⟨a,b,⟨c1,c2,c3,c4,c5,c6⟩,d,e⟩,h⟩:=b7 h
  rw[← h];exact OS p.1 p.2 t a b c2 d c4 c5 c6 e
def qj:=cW tRd tT fun r t=>if t.length=3∧small t∧okR r∧r.kind=2 then some (.bool (isR r 0 t)) else none
theorem Ot:∀xs v,qj xs=some v→al S 257 xs v:=
 cj fun r t v h=>by
  obtain⟨⟨a,b,⟨c1,c2,c3,c4,c5,c6⟩,d⟩,h⟩:=b7 h
  rw[← h];exact Q6 r t 0 a b c2 c3 d c4 c5 c6
def lG:=cW tRd tT fun r t=>if t.length=3∧okR r∧r.kind=3 then some (.bool (isR r 0 t)) else none
theorem Hs:∀xs v,lG xs=some v→al S 258 xs v:=
 cj fun r t v h=>by
  obtain⟨⟨a,⟨c1,c2,c3,c4,c5,c6⟩,d⟩,h⟩:=b7 h
  rw[← h];exact JY r t 0 a c2 c3 d
def fs5(f:FuncId)(xs:List AV):Option AV:=if f=169 then mR xs else if f=229 then nA xs else if f=257 then qj xs else if f=258 then lG xs else fs4 f xs
theorem ef{S:MC Tryz.prog}:∀f xs v,fs5 f xs=some v→al S f xs v:=by
 intro f xs v h
 unfold fs5 at h
 split at h
 ·rename_i e;subst e;exact x7 _ _ h
 split at h
 ·rename_i e;subst e;exact Jn _ _ h
 split at h
 ·rename_i e;subst e;exact Ot _ _ h
 split at h
 ·rename_i e;subst e;exact Hs _ _ h
 exact sJ _ _ _ h
attribute [go_sem] fs5 mR nA qj lG
theorem v8{r:Rd}{sl:Int}{t:List Int}(h:r.kind≠1):isR r sl t=isR r 0 t:=by simp[isR,h]
theorem wJ{N:Nat}{ord:Nat→List Nat×List (Nat×List Nat)}{fs:FuncId→List AV→Option AV}(hf:∀xs,fs 229 xs=nA xs∧fs 257 xs=qj xs∧fs 258 xs=lG xs){r:Rd}{sl:Int}{t:List Int}{σ:List aa}{X:AV→List aa→Prop}
  (hr:okR r) (hsl:0≤sl∧sl≤3) (ht:t.length=3) (hs:small t):xD (Tryz.E (S:=S) N ord fs) σ X "musette/meter.is" (some (rdv r sl)) (some [.agg (t.map (AV.int .i64))])=eM X σ (isR r sl t):=by
 have hk:=hr.1
 rcases(by omega:r.kind=1∨r.kind=2∨r.kind=3) with k | k | k
 ·obtain⟨rk,ra,rb,rs,rx,ry⟩:=r
  simp only at k
  subst k
  simp only[rdv,if_true,la,Tryz.Emt,Tryz.Lh,kV,oh,Tryz.Efs,(hf _).1,nA,cW,sS,vu,tN,nD,Option.bind_some,ht,hs,hr,hsl,true_and,and_self,if_true,kY,ki]
 ·simp only[rdv,k,if_true,la,Tryz.Emt,Tryz.Oo,kV,oh,Tryz.Efs,(hf _).2.1,qj,cW,vF,lr,tN,nD,Option.bind_some,ht,hs,hr,and_self,if_true,kY,ki,v8 (r:=r) (sl:=sl) (by omega),(by decide:¬(2:Int)=1),if_false]
 ·simp only[rdv,k,if_true,la,Tryz.Emt,Tryz.Ie,kV,oh,Tryz.Efs,(hf _).2.2,lG,cW,vF,lr,tN,nD,Option.bind_some,ht,hs,hr,and_self,if_true,kY,ki,v8 (r:=r) (sl:=sl) (by omega),(by decide:¬(3:Int)=1),(by decide:¬(3:Int)=2),if_false]
theorem AO{g:FuncId}{p q L:List AV}{σ:List aa}(hI:Iter S g p q σ L)(hL:L.length≤4294967296)(hf:∀v∈L,∃cs,v= .agg cs∧cs.length=3)(hp:Plain (.list .no 3 L)){Q:AV→List aa→Prop}(h:Q (.list .no 3 L) σ) :
  ao S 202 [.list .full 0 [],.fn (.func g) p q] σ Q:=by
 refine ao.jS (E:=Tryz.E (S:=S) 13 (fun _=>([],[])) fs0) (Tryz.ah (S:=S) 13 (fun _=>([],[])) fs0 aD) (hp _) (h) Tryz.Dp Tryz.func202 rfl (by kernel_rfl) (by simp[Tryz.E]) (aW.of Tryz.func202 (by kernel_rfl) (by kernel_rfl)) (by kernel_rfl) ?_
 simp -implicitDefEqProofs (maxSteps:=9^9) (disch:=omega) only[go_sem,simprocAttr]
 refine aj.zK σ.length 3 (sz0:=0) (by simp[a8]) ?_
 simp only[lV,List.set_cons_zero,List.append_assoc,List.cons_append,List.nil_append,List.length_append,List.length_cons,List.length_nil,Nat.zero_add]
 refine aj.Hj (g:=g) (p:=p) (q:=q) (L:=L) (σ0:=σ) (by simp[aH,Fr.get,ae,Tryz.Dp]) hI (by simp) (fun k hk=>aB hk) ⟨7,rfl,by simp[Tryz.EN]⟩
  (fun k=>k=σ.length∨k=σ.length+1) (fun k hk=>by simp;omega) (fun D τ=>ai τ σ.length=some (.cells [.list (.own (σ.length+1)) 3 D])∧ai τ (σ.length+1)=some (.tail D.length 3)) (fun _ _=>False)
  (by simp[a8,aZ]) (fun{D τ τ'} hc hk=>by rw[hk _ (.inl rfl),hk _ (.inr rfl)];exact hc) (fun{j τ τ'} hc _=>hc) ?_ ?_ (fun τ j _ _ hc=>hc.elim)
 ·rintro D v R fn τ hD ⟨c1,c2⟩ hlt hrec
  have hlen:(σ++[aa.cells [.list (.own (σ.length+1)) 3 []],.tail 0 3]).length=σ.length+2:=by simp
  rw[hlen] at hrec hlt⊢
  obtain⟨cs,rfl,hcs⟩:=hf v (by rw[hD];simp)
  have hcs':List.take 3 cs=cs:=List.take_of_length_le (by omega)
  have hDl:D.length+1≤4294967296:=by have:=congrArg List.length hD;simp at this;omega
  refine aR (Tryz.ah (S:=S) 13 (fun _=>([],[])) fs0 aD) (n:=1000) (by kernel_rfl) ?_
  have e0:∀x y z:AV,putAt 0 cs [x,y,z]=cs:=fun x y z=>by simp[putAt,hcs]
  simp -implicitDefEqProofs (maxSteps:=9^9) (disch:=omega) only[go_sem,simprocAttr,sB,hcs,e0]
  refine aj.qU (by rw[aB (by omega)];exact hrec) fun τ2 hl2 hs2 hr2=>?_
  rw[List.length_append,List.length_singleton] at hl2
  have k1:ai τ2 σ.length=some (.cells [.list (.own (σ.length+1)) 3 D]):=by rw[hs2 _ (by omega),aB (by omega)];exact c1
  have k2:ai τ2 (σ.length+1)=some (.tail D.length 3):=by rw[hs2 _ (by omega),aB (by omega)];exact c2
  have k3:ai τ2 τ.length=some (.cells cs):=by rw[hs2 _ (by omega)];exact a8
  refine aR (Tryz.ah (S:=S) 13 (fun _=>([],[])) fs0 aD) (n:=1000) (by kernel_rfl) ?_
  simp -implicitDefEqProofs (maxSteps:=9^9) (disch:=omega) only[go_sem,simprocAttr,k1,k2,k3,hcs,hcs',hDl,cG]
  refine⟨⟨by simp only[aJ];omega,fun q hq hm=>?_⟩,none,hr2⟩
  rw[bt (by omega),bt (by omega),hs2 q (by omega),aB hq]
 ·rintro τ hlt hold ⟨c1,c2⟩
  refine aR (Tryz.ah (S:=S) 13 (fun _=>([],[])) fs0 aD) (n:=1000) (by kernel_rfl) ?_
  simp -implicitDefEqProofs (maxSteps:=9^9) (disch:=omega) only[go_sem,simprocAttr,c1]
  simp only[List.length_append,List.length_cons,List.length_nil] at hlt hold
  exact oi (by omega) (fun q hq=>by rw[hold q (by omega) (by omega)];exact aB hq) ⟨rfl,.inl rfl,.inl rfl⟩
theorem Gd{g:FuncId}{p q L:List AV}{σ:List aa}(hI:Iter S g p q σ L)(hL:L.length≤4294967296)(hf:∀v∈L,∃cs,v= .agg cs∧cs.length=3)(hp:Plain (.list .no 3 L)){Q:AV→List aa→Prop}(h:Q (.list .no 3 L) σ) :
  ao S 158 [.fn (.func g) p q] σ Q:=by
 refine AcE (Tryz.ah (S:=S) 5 (fun _=>([],[])) fs0 aD) Tryz.Nu Tryz.func158 rfl ?_
 simp -implicitDefEqProofs (maxSteps:=9^9) (disch:=omega) only[go_sem,simprocAttr]
 refine AO hI hL hf hp ?_
 simp -implicitDefEqProofs (maxSteps:=9^9) (disch:=omega) only[go_sem,simprocAttr,h]
def Ear.cells(e:Ear):List AV:=[.int .i64 e.slack,.list .no 2 (e.tones.map Rng.av),.list .no 6 (e.rds.map Rd.av)]
structure TrO(e:Ear)(M:Nat→Prop)(r re rl ry rn:Nat)(τ:List aa):Prop where
 e1:ai τ re=some (.cells e.cells)
 l1:∃tk,ai τ rl=some (.cells [.list tk 1 (e.rds.map fun r=>rdv r e.slack)])
 y1:ai τ ry=some (.cells [.yield r])
 n1:ai τ rn=some (.cells [.fn (.func 204) [] [.ptr re 0,.ptr rl 0,.ptr ry 0,.ptr rn 0]])
 m:¬M re∧¬M rl∧¬M ry∧¬M rn
def Mq{P:Program}{S:MC P}{r:Nat}{L:List AV}(T:kR S r L)(τ:List aa)(D:List AV)(v:AV)(τ':List aa):Prop:=
 bZ T.M τ τ'∧(v= .bool true∧T.C D τ'∨v= .bool false∧∃D' v' R',L=D'++v'::R'∧T.St (D'++[v']) τ')
theorem RB(e:Ear)(he:OkE e):∀(m:Nat) (t:List Int) (a:Nat),t.length=3→small t→a+m=e.tones.length→∀{r re rl ry rn:Nat} {L:List AV} (T:kR S r L) {τ:List aa} (D Rest:List AV),TrO e T.M r re rl ry rn τ→T.C D τ→L=D++(dY e m t a).map tav++Rest→
  ao S 204 [tav t,.int .i64 a,.ptr re 0,.ptr rl 0,.ptr ry 0,.ptr rn 0] τ (Mq T τ (D++(dY e m t a).map tav)):=by
 intro m
 induction m with
 | zero=>
  intro t a ht hs ha r re rl ry rn L T τ D Rest hT hC hL
  refine AcE (Tryz.ah (S:=S) 56 (fun _=>([],[])) fs5 ef) Tryz.Cx Tryz.func204 rfl ?_
  simp only[tav]
  have q1:∀l,ai (τ++l) re=some (.cells e.cells):=fun l=>by rw[aB (aN hT.e1)];exact hT.e1
  obtain⟨tk,hl1⟩:=hT.l1
  have q2:∀l,ai (τ++l) rl=some (.cells [.list tk 1 (e.rds.map fun r=>rdv r e.slack)]):=fun l=>by rw[aB (aN hl1)];exact hl1
  have hlen:=he.len
  have hrl:=he.rl
  have q3:∀l,ai (τ++l) ry=some (.cells [.yield r]):=fun l=>by rw[aB (aN hT.y1)];exact hT.y1
  simp -implicitDefEqProofs (maxSteps:=9^9) (disch:=omega) only[go_sem,simprocAttr,q1,q2,Ear.cells]
  refine aj.bE (Tryz.ah (S:=S) 56 (fun _=>([],[])) fs5 ef) e.rds.length (fun i=>(e.rds.take i).all (fun r=>isR r e.slack t)=true) (fun i=>[(19,.int .i64 i)]) (fun _ _=>τ++[.cells (t.map (AV.int .i64))]) [] (by kernel_rfl) rfl (by simp[upd,ins,aw,ae]) (by simp) ?_ ?_
  ·intro i j hi hp ih'
   have hri:=he.rd _ (List.getElem_mem hi)
   have hinv:=@wJ S 56 (fun x=>([],[])) fs5 (fun _=>⟨rfl,rfl,rfl⟩) e.rds[i] e.slack t
   have hcl:(rdv e.rds[i] e.slack).cells=[rdv e.rds[i] e.slack]:=by unfold rdv;split;rfl;split<;> rfl
   cases hb:isR e.rds[i] e.slack t
   ·simp -implicitDefEqProofs (maxSteps:=9^9) (disch:=omega) only[go_sem,simprocAttr,q1,q2,Ear.cells,hcl,hinv hri he.sl ht hs,hb]
    have:dY e 0 t a=[]:=by
     simp only[dY];rw[if_neg];intro h;have:=List.all_eq_true.1 h _ (List.getElem_mem hi);rw[hb] at this;cases this
    rw[this,List.map_nil,List.append_nil]
    exact⟨bZ.app,.inl ⟨rfl,T.keep hC (gh.app fun q hq=>T.lt hC hq)⟩⟩
   ·simp -implicitDefEqProofs (maxSteps:=9^9) (disch:=omega) only[go_sem,simprocAttr,q1,q2,Ear.cells,hcl,hinv hri he.sl ht hs,hb]
    refine(ih' ?_ []).ay rfl (by simp[upd,ins,aw,ae])
    rw[List.take_succ_eq_append_getElem hi,List.all_append,hp];simp[hb]
  ·intro j hp
   rw[List.take_length] at hp
   have hall:dY e 0 t a=[t]:=by simp only[dY];rw[if_pos hp]
   rw[hall] at hL⊢
   simp -implicitDefEqProofs (maxSteps:=9^9) (disch:=omega) only[go_sem,simprocAttr,q3,yR]
   refine(T.take (D:=D) (R:=Rest) (by rw[hL];simp[tav]) (T.keep hC (gh.app fun q hq=>T.lt hC hq))).mono fun v τ' hv=>?_
   rcases hv with⟨h1,⟨rfl,h2⟩ | ⟨rfl,h2⟩⟩
   ·simp -implicitDefEqProofs (maxSteps:=9^9) (disch:=omega) only[go_sem,simprocAttr]
    exact⟨bZ.app.trans h1,.inl ⟨rfl,h2⟩⟩
   ·simp -implicitDefEqProofs (maxSteps:=9^9) (disch:=omega) only[go_sem,simprocAttr]
    exact⟨bZ.app.trans h1,.inr ⟨rfl,D,tav t,Rest,by rw[hL];simp,h2⟩⟩
 | succ m ih=>
  intro t a ht hs ha r re rl ry rn L T τ D Rest hT hC hL
  have hlen:=he.len
  have hal:a<e.tones.length:=by omega
  have hx:=he.tone _ (List.getElem_mem hal)
  have hgd:e.tones.getD a default=e.tones[a]:=by simp[List.getD,List.getElem?_eq_getElem hal]
  generalize hxe:e.tones[a]=x at hx hgd
  have hall:dY e (m+1) t a=(List.range (x.hi-x.lo+1).toNat).flatMap fun(k:Nat)=>dY e m (bG t a (x.lo+k)) (a+1):=by simp only[dY,hgd]
  rw[hall] at hL⊢
  refine AcE (Tryz.ah (S:=S) 56 (fun _=>([],[])) fs5 ef) Tryz.Cx Tryz.func204 rfl ?_
  simp only[tav]
  have hre:=aN hT.e1
  have hrn:=aN hT.n1
  have q1:∀l,ai (τ++l) re=some (.cells e.cells):=fun l=>by rw[aB hre];exact hT.e1
  simp -implicitDefEqProofs (maxSteps:=9^9) (disch:=omega) only[go_sem,simprocAttr,q1,Ear.cells,Rng.av,hxe]
  refine aj.kL (Tryz.ah (S:=S) 56 (fun _=>([],[])) fs5 ef) (x.hi-x.lo+1).toNat (fun i σ'=>∃ti:List Int,ti.length=3∧small ti∧(∀z,bG ti a z=bG t a z)∧ai σ' τ.length=some (.cells (ti.map (AV.int .i64)))∧bZ (fun q=>T.M q∨q=τ.length) (τ++[.cells (t.map (AV.int .i64))]) σ'∧T.C (D++((List.range i).flatMap fun(k:Nat)=>dY e m (bG t a (x.lo+k)) (a+1)).map tav) σ') (fun i=>[(11,.int .i64 (x.lo+i))]) (by kernel_rfl) (by simp[upd,ins,aw,ae]) ?_ ?_ ?_
  ·exact⟨t,ht,hs,fun _=>rfl,a8,bZ.refl,by simpa using T.keep hC (gh.app fun q hq=>T.lt hC hq)⟩
  ·rintro i σ' hi ⟨ti,h1,h2,h3,h4,h5,h6⟩ ih'
   have hs1:bZ (fun q=>T.M q∨q=τ.length) τ σ':=bZ.app.trans h5
   have ho:∀{q o},ai τ q=some o→¬T.M q→ai σ' q=some o:=fun h hm=>hs1.get h (fun h'=>by rcases h' with h' | h';exact hm h';have:=aN h;omega)
   have p1:=ho hT.e1 hT.m.1
   have p5:∀o,ai (ax σ' τ.length o) τ.length=some o:=fun o=>cN h4 o
   have p6:∀o,ai (ax σ' τ.length o) rn=some (.cells [.fn (.func 204) [] [.ptr re 0,.ptr rl 0,.ptr ry 0,.ptr rn 0]]):=fun o=>by rw[bt (by omega)];exact ho hT.n1 hT.m.2.2.2
   have hset3:=@oU ti (a:Int) (x.lo+i) (by omega) (by omega)
   rw[h3] at hset3
   have hl3:(bG t a (x.lo+i)).length=3:=by rw[oz];exact ht
   simp -implicitDefEqProofs (maxSteps:=9^9) (disch:=omega) only[go_sem,simprocAttr,p1,Ear.cells,Rng.av,hxe,h4,p5,p6,h1,h3,oz]
   obtain⟨X,hX⟩:=oY (fun(k:Nat)=>dY e m (bG t a (x.lo+k)) (a+1)) hi
   have hs2:bZ (fun q=>T.M q∨q=τ.length) τ (ax σ' τ.length (.cells ((bG t a (x.lo+i)).map (AV.int .i64)))):=hs1.trans ⟨by rw[aJ];omega,fun q hq hm=>by rw[bt (by omega)]⟩
   have ho2:∀{q o},ai τ q=some o→¬T.M q→ai (ax σ' τ.length (.cells ((bG t a (x.lo+i)).map (AV.int .i64)))) q=some o:=fun h hm=>hs2.get h (fun h'=>by rcases h' with h' | h';exact hm h';have:=aN h;omega)
   have hMt:¬T.M τ.length:=fun h=>by have:=T.lt hC h;omega
   refine ao.mono (ih (bG t a (x.lo+i)) (a+1) hl3 (oM hs (by omega)) (by omega) T (D++((List.range i).flatMap fun(k:Nat)=>dY e m (bG t a (x.lo+k)) (a+1)).map tav) (X.map tav++Rest) ⟨ho2 hT.e1 hT.m.1,by obtain⟨tk,h⟩:=hT.l1;exact⟨tk,ho2 h hT.m.2.1⟩,ho2 hT.y1 hT.m.2.2.1,ho2 hT.n1 hT.m.2.2.2,hT.m⟩
    (T.keep h6 ⟨by rw[aJ];omega,fun q hq=>bt (fun e=>hMt (e▸hq))⟩) (by rw[hL,hX];simp)) fun v τ' hv=>?_
   have hsf:bZ (fun q=>T.M q∨q=τ.length) (ax σ' τ.length (.cells ((bG t a (x.lo+i)).map (AV.int .i64)))) τ':=⟨hv.1.1,fun q hq hm=>hv.1.2 q hq (fun h=>hm (.inl h))⟩
   have hlen':τ.length<σ'.length:=aN h4
   rcases hv with⟨g1,⟨rfl,g2⟩ | ⟨rfl,g2⟩⟩
   ·simp -implicitDefEqProofs (maxSteps:=9^9) (disch:=omega) only[go_sem,simprocAttr]
    refine(ih' τ' ⟨bG t a (x.lo+i),hl3,oM hs (by omega),fun z=>o7,?_,?_,?_⟩).ay rfl (by simp[upd,ins,aw,ae,Int.add_assoc])
    ·rw[g1.2 _ (by rw[aJ];exact hlen') hMt];exact cN h4 _
    ·refine⟨by have:=g1.1;rw[aJ] at this;have:=h5.1;omega,fun q hq hm=>?_⟩
     rw[hsf.2 q (by rw[aJ];have:=h5.1;omega) hm,bt (fun e=>hm (.inr e.symm)),h5.2 q hq hm]
    ·rw[gE];simpa using g2
   ·simp -implicitDefEqProofs (maxSteps:=9^9) (disch:=omega) only[go_sem,simprocAttr]
    refine⟨⟨by have:=g1.1;rw[aJ] at this;have:=hs1.1;omega,fun q hq hm=>?_⟩,.inr ⟨rfl,g2⟩⟩
    rw[g1.2 q (by rw[aJ];have:=hs1.1;omega) hm,hs2.2 q hq (fun h=>by rcases h with h | h;exact hm h;omega)]
  ·rintro σ' ⟨ti,h1,h2,h3,h4,h5,h6⟩
   have hs1:bZ (fun q=>T.M q∨q=τ.length) τ σ':=bZ.app.trans h5
   have ho:∀{q o},ai τ q=some o→¬T.M q→ai σ' q=some o:=fun h hm=>hs1.get h (fun h'=>by rcases h' with h' | h';exact hm h';have:=aN h;omega)
   have p1:=ho hT.e1 hT.m.1
   simp -implicitDefEqProofs (maxSteps:=9^9) (disch:=omega) only[go_sem,simprocAttr,p1,Ear.cells,Rng.av,hxe]
   exact⟨⟨hs1.1,fun q hq hm=>hs1.2 q hq (fun h=>by rcases h with h | h;exact hm h;omega)⟩,.inl ⟨rfl,h6⟩⟩
def aF(e:Ear):List (List Int):=dY e e.tones.length [0,0,0] 0
theorem N8(e:Ear)(he:OkE e):∀(m:Nat) (t:List Int) (a:Nat),t.length=3→small t→a+m=e.tones.length→∀u∈dY e m t a,u.length=3∧small u:=by
 intro m
 induction m with
 | zero=>
  intro t a h1 h2 h3 u hu
  simp only[dY] at hu
  split at hu
  ·simp at hu;subst hu;exact⟨h1,h2⟩
  ·simp at hu
 | succ m ih=>
  intro t a h1 h2 h3 u hu
  simp only[dY,List.mem_flatMap,List.mem_range] at hu
  obtain⟨k,hk,hu⟩:=hu
  have hal:a<e.tones.length:=by omega
  have hx:=he.tone _ (List.getElem_mem hal)
  have hgd:e.tones.getD a default=e.tones[a]:=by simp[List.getD,List.getElem?_eq_getElem hal]
  rw[hgd] at hk hu
  exact ih _ _ (by rw[oz];exact h1) (oM h2 (by omega)) (by omega) u hu
theorem ei{e:Ear}(he:OkE e):∀u∈aF e,u.length=3∧small u:=N8 e he _ _ _ rfl (by intro x hx;simp at hx;subst hx;omega) (by omega)
theorem Hg(e:Ear)(he:OkE e){r re rl:Nat}{L:List AV}(T:kR S r L){τ:List aa}(h1:ai τ re=some (.cells e.cells))(h2:∃tk,ai τ rl=some (.cells [.list tk 1 (e.rds.map fun r=>rdv r e.slack)]))(hm:¬T.M re∧¬T.M rl)(hC:T.C [] τ)(hL:L=(aF e).map tav) :
  ao S 203 [.yield r,.ptr re 0,.ptr rl 0] τ fun _ τ'=>bZ T.M τ τ'∧(T.C L τ'∨∃D v R,L=D++v::R∧T.St (D++[v]) τ'):=by
 subst hL
 refine AcE (Tryz.ah (S:=S) 9 (fun _=>([],[])) fs5 ef) Tryz.Nw Tryz.func203 rfl ?_
 simp -implicitDefEqProofs (maxSteps:=9^9) (disch:=omega) only[go_sem,simprocAttr]
 have hlt:∀q,T.M q→q<τ.length:=fun q hq=>T.lt hC hq
 obtain⟨tk,h2⟩:=h2
 have hb1:=aN h1
 have hb2:=aN h2
 refine(RB e he e.tones.length [0,0,0] 0 rfl (by intro x hx;simp at hx;subst hx;omega) (by omega) T (r:=r) (re:=re) (rl:=rl) (ry:=τ.length) (rn:=τ.length+1) [] [] ⟨by rw[aB hb1];exact h1,⟨tk,by rw[aB hb2];exact h2⟩,a8,aZ,hm.1,hm.2,fun h=>by have:=hlt _ h;omega,fun h=>by have:=hlt _ h;omega⟩ (T.keep hC (gh.app hlt)) (by simp[aF])).mono fun v τ' hv=>?_
 simp -implicitDefEqProofs (maxSteps:=9^9) (disch:=omega) only[go_sem,simprocAttr]
 refine⟨bZ.app.trans hv.1,?_⟩
 rcases hv with⟨_,⟨_,g⟩ | ⟨_,D,v',R,g1,g2⟩⟩
 ·left;simpa[aF] using g
 ·right;exact⟨D,v',R,g1,g2⟩
theorem vM{X:AV→List aa→Prop}{σ:List aa}{r:Rd}{sl:Int}:fW X σ (some (rdv r sl))=X (rdv r sl) σ:=by rw[rz];rfl
theorem Jx(e:Ear)(he:OkE e)(σ:List aa)(Q:AV→List aa→Prop)(h:∀re rl junk,Iter S 203 [] [.ptr re 0,.ptr rl 0] (σ++junk) ((aF e).map tav)→Q (.fn (.func 203) [] [.ptr re 0,.ptr rl 0]) (σ++junk)) :
  ao S 159 [e.av] σ Q:=by
 refine AcE (Tryz.ah (S:=S) 22 Tryz.y9 fs5 ef) Tryz.Ms Tryz.func159 rfl ?_
 have hrl:=he.rl
 simp only[Ear.av]
 simp -implicitDefEqProofs (maxSteps:=9^9) (disch:=omega) only[go_sem,simprocAttr]
 refine aj.zK (σ.length+1) 1 (sz0:=0) (by simp[aZ]) ?_
 simp only[fI,List.set_cons_succ,List.set_cons_zero,List.append_assoc,List.cons_append,List.nil_append,List.length_append,List.length_cons,List.length_nil,Nat.zero_add]
 refine aj.bE (Tryz.ah (S:=S) 22 Tryz.y9 fs5 ef) e.rds.length (fun _=>True) (fun i=>[(9,.int .i64 i)]) (fun i j=>σ++(.cells e.cells:: .cells [.list (.own (σ.length+2)) 1 ((e.rds.take i).map fun r=>rdv r e.slack)]:: .tail i 1::j)) [] (by kernel_rfl) (by simp[Ear.cells]) (by simp[upd,ins,aw,ae]) trivial ?_ ?_
 ·intro i j hi _ ih
  have hcl:∀r,(rdv r e.slack).cells=[rdv r e.slack]:=fun r=>by unfold rdv;split;rfl;split<;> rfl
  have hfl:∀r,(rdv r e.slack).flat=true:=fun r=>by unfold rdv;split;rfl;split<;> rfl
  have htl:(List.take i e.rds).length=i:=by rw[List.length_take];omega
  simp -implicitDefEqProofs (maxSteps:=9^9) (disch:=omega) only[go_sem,simprocAttr,Ear.cells,Rd.av,hcl,hfl,htl,vM]
  refine(ih trivial (j++[_])).ay (by rw[List.take_succ_eq_append_getElem hi,List.map_append];rfl) (by simp[upd,ins,aw,ae])
 ·intro j _
  simp -implicitDefEqProofs (maxSteps:=9^9) (disch:=omega) only[go_sem,simprocAttr,Ear.cells]
  refine h _ _ _ fun r T σ' hk hl hC=>?_
  have:=Hg (S:=S) e he T (re:=σ.length) (rl:=σ.length+1) (τ:=σ') (by rw[(hk _ (by simp)).1];simp[a8,Ear.cells]) ⟨_,by rw[(hk _ (by simp)).1,aZ,List.take_length];rfl⟩ ⟨(hk _ (by simp)).2,(hk _ (by simp)).2⟩ hC rfl
  simpa using this
theorem Kw{e:Ear}(he:OkE e):∀v∈(aF e).map tav,∃cs,v= .agg cs∧cs.length=3:=by
 intro v hv
 obtain⟨t,ht,rfl⟩:=List.mem_map.1 hv
 exact⟨_,rfl,by simpa using(ei he t ht).1⟩
theorem ie{α:Type}{f:α→Int}:∀{l:List α},bM f l=0→∀x∈l,f x=0
 | [],_,x,h=>by simp at h
 | y::l,e,x,h=>by
  simp only[bM] at e
  split at e
  ·rename_i hy
   rcases List.mem_cons.1 h with rfl | h
   ·exact hy
   ·exact ie e x h
  ·rename_i hy;exact absurd e hy
theorem Ig{r:Rd}{m:Nat}(hm:m≤3)(h:ckR r m=0):okR r:=by
 simp only[ckR] at h
 unfold okR
 grind (splits:=40)
theorem dQ{e:Ear}(h:ck e=0):OkE e:=by
 have h0:=h
 simp only[ck] at h
 have hl:e.tones.length≤3:=by grind
 refine⟨hl,fun x hx=>?_,fun r hr=>Ig hl (ie (f:=fun r=>ckR r e.tones.length) (by grind) r hr),by grind,by grind⟩
 have:=ie (f:=ckT) (l:=e.tones) (by grind) x hx
 simp only[ckT] at this
 grind
theorem bB{α:Type}{f:Nat→List α}{b:Nat}:∀n,(∀k,k<n→(f k).length≤b)→((List.range n).flatMap f).length≤n*b
 | 0,_=>by simp
 | n+1,h=>by
  rw[gE,List.length_append,Nat.succ_mul]
  exact Nat.add_le_add (bB n fun k hk=>h k (by omega)) (h n (by omega))
theorem se(e:Ear)(he:OkE e):∀(m:Nat) (t:List Int) (a:Nat),a+m=e.tones.length→(dY e m t a).length≤21^m
 | 0,t,a,h=>by simp only[dY];split<;> simp
 | m+1,t,a,h=>by
  simp only[dY]
  have hal:a<e.tones.length:=by omega
  have hx:=he.tone _ (List.getElem_mem hal)
  have hgd:e.tones.getD a default=e.tones[a]:=by simp[List.getD,List.getElem?_eq_getElem hal]
  rw[hgd]
  refine Nat.le_trans (bB _ fun k hk=>se e he m _ (a+1) (by omega)) ?_
  rw[Nat.pow_succ,Nat.mul_comm]
  exact Nat.mul_le_mul_left _ (by omega)
theorem eo{e:Ear}(he:OkE e):(aF e).length≤9261:=
 Nat.le_trans (se e he _ _ _ (by omega)) (Nat.le_trans (Nat.pow_le_pow_right (by omega) he.len) (by decide))
def cy(e:Ear):List (List Int)×Int:=if ck e≠0 then([],ck e) else if aF e=[] then([],9) else(aF e,0)
def c8(e:Ear)(w:Int):List (List Int)×Int:=if ck e≠0 then([],ck e) else if w≠0 then([],w) else cy e
theorem zu{p:List (List Int)×Int}:Plain (.tup [eI p.1,.int .i64 p.2]):= .tup (by simp;exact⟨tx _,.int⟩)
theorem PH(e:Ear)(h1:e.tones.length≤4294967296)(h2:e.rds.length≤4294967296):al S 123 [e.av] (.tup [eI (cy e).1,.int .i64 (cy e).2]):=by
 refine PvE (Tryz.ah (S:=S) 18 (fun _=>([],[])) fs5 ef) (zu) Tryz.Mk Tryz.func123 rfl ?_
 intro σ
 have hw:=BU (S:=S) e h1 h2
 simp only[Ear.av]
 by_cases hc:ck e=0
 ·have he:=dQ hc
  simp -implicitDefEqProofs (maxSteps:=9^9) (disch:=omega) only[go_sem,simprocAttr,hc]
  refine Jx e he _ _ fun re rl junk hI=>?_
  simp only[List.append_assoc,List.cons_append,List.nil_append] at hI
  simp -implicitDefEqProofs (maxSteps:=9^9) (disch:=omega) only[go_sem,simprocAttr,hc]
  refine Gd hI (by rw[List.length_map];have:=eo he;omega) (Kw he) (tx _) ?_
  have hl:=eo he
  by_cases hn:aF e=[]
  ·simp -implicitDefEqProofs (maxSteps:=9^9) (disch:=omega) only[go_sem,simprocAttr,hc,hn]
   simp[cy,hc,hn,eI,nV]
  ·have hz:¬(aF e).length=0:=fun h=>hn (List.length_eq_zero_iff.1 h)
   simp -implicitDefEqProofs (maxSteps:=9^9) (disch:=omega) only[go_sem,simprocAttr,hc,hn]
   simp[cy,hc,hn,eI,nV]
 ·simp -implicitDefEqProofs (maxSteps:=9^9) (disch:=omega) only[go_sem,simprocAttr,hc]
  simp[cy,hc,eI,nV]
def vB:=jh lp fun e=>if e.tones.length≤4294967296∧e.rds.length≤4294967296 then some (.tup [eI (cy e).1,.int .i64 (cy e).2]) else none
theorem LB:∀xs v,vB xs=some v→al S 123 xs v:=
 gB fun e v h=>by have h:=b7 h;rw[← h.2];exact PH e h.1.1 h.1.2
def fs7(f:FuncId)(xs:List AV):Option AV:=if f=123 then vB xs else fs5 f xs
theorem FV{S:MC Tryz.prog}:∀f xs v,fs7 f xs=some v→al S f xs v:=by
 intro f xs v h
 unfold fs7 at h
 split at h
 ·rename_i e;subst e;exact LB _ _ h
 exact ef _ _ _ h
attribute [go_sem] fs7 vB
theorem TU(e:Ear)(w:Int)(h1:e.tones.length≤4294967296)(h2:e.rds.length≤4294967296):al S 160 [e.av,.int .i64 w] (.tup [eI (c8 e w).1,.int .i64 (c8 e w).2]):=by
 refine PvE (Tryz.ah (S:=S) 19 (fun _=>([],[])) fs7 FV) (zu) Tryz.M5 Tryz.func160 rfl ?_
 intro σ
 simp only[Ear.av]
 simp -implicitDefEqProofs (maxSteps:=9^9) (disch:=omega) only[go_sem,simprocAttr,eI]
 refine⟨fun q1=>?_,fun q1=>⟨fun q2=>?_,fun q2=>?_⟩⟩<;> simp[c8, *]
def CF:=cW lp tI fun e w=>if e.tones.length≤4294967296∧e.rds.length≤4294967296 then some (.tup [eI (c8 e w).1,.int .i64 (c8 e w).2]) else none
theorem Rn:∀xs v,CF xs=some v→al S 160 xs v:=
 cj fun e w v h=>by have h:=b7 h;rw[← h.2];exact TU e w h.1.1 h.1.2
def fs8(f:FuncId)(xs:List AV):Option AV:=if f=160 then CF xs else fs7 f xs
theorem js{S:MC Tryz.prog}:∀f xs v,fs8 f xs=some v→al S f xs v:=by
 intro f xs v h
 unfold fs8 at h
 split at h
 ·rename_i e;subst e;exact Rn _ _ h
 exact FV _ _ _ h
attribute [go_sem] fs8 CF
def ClV{P:Program}(S:MC P)(g:FuncId)(p q:List AV)(σ:List aa)(xs:List AV)(v:AV):Prop:=
 ∀σ',σ.length≤σ'.length→(∀k,k<σ.length→ai σ' k=ai σ k)→∀Q:AV→List aa→Prop,Q v σ'→ao S g (p++xs++q) σ' Q
theorem ClV.app{P:Program}{S:MC P}{g:FuncId}{p q:List AV}{σ l:List aa}{xs:List AV}{v:AV}(h:ClV S g p q σ xs v){Q:AV→List aa→Prop}(hq:Q v (σ++l)):ao S g (p++xs++q) (σ++l) Q:=
 h _ (by simp) (fun k hk=>aB hk) Q hq
theorem ClV.app1{P:Program}{S:MC P}{g:FuncId}{p q:List AV}{σ l:List aa}{x:AV}{v:AV}(h:ClV S g p q σ [x] v){Q:AV→List aa→Prop}(hq:Q v (σ++l)):ao S g (p++x::q) (σ++l) Q:=by
 have:=h.app (l:=l) hq
 simpa using this
def mn(a b:Int):Int:=if b<a then b else a
def mx(a b:Int):Int:=if a<b then b else a
def cD(num:List Int→Int)(x:Rng)(t:List Int):Rng:=⟨mn x.lo (num t),mx x.hi (num t)⟩
def bH(num:List Int→Int)(l:List (List Int)):Rng:=l.foldl (cD num) ⟨num (l.headD []),num (l.headD [])⟩
theorem HZ{g:FuncId}{p q:List AV}{σ:List aa}(num:List Int→Int)(l:List (List Int))(hl:l≠[])(hl2:l.length≤4294967296)(h3:∀t∈l,t.length=3)(hn:∀t∈l,ClV S g p q σ [tav t] (.int .i64 (num t)))(Q:AV→List aa→Prop)(h:Q (bH num l).av σ) :
  ao S 124 [eI l,.fn (.func g) p q] σ Q:=by
 refine ao.jS (E:=Tryz.E (S:=S) 40 Tryz.sM fs0) (Tryz.ah (S:=S) 40 Tryz.sM fs0 aD) (Rng.plain _ _) (h) Tryz.L3 Tryz.func124 rfl (by kernel_rfl) (by simp[Tryz.E]) (aW.of Tryz.func124 (by kernel_rfl) (by kernel_rfl)) (by kernel_rfl) ?_
 simp only[eI]
 have h0:0<l.length:=List.length_pos_iff.2 hl
 have hidx:∀f:List Int→AV,idx (l.map f) 0=some (f l[0]):=fun f=>qv (i:=0) h0
 have hc3:∀t∈l,∃cs,tav t= .agg cs∧cs.length=3:=fun t ht=>⟨_,rfl,by simpa using h3 t ht⟩
 have hm0:l[0]∈l:=List.getElem_mem h0
 have h30:=h3 _ hm0
 simp -implicitDefEqProofs (maxSteps:=9^9) (disch:=omega) only[go_sem,simprocAttr,hidx,tav]
 refine(hn _ hm0).app1 ?_
 simp -implicitDefEqProofs (maxSteps:=9^9) (disch:=omega) only[go_sem,simprocAttr,hidx,tav]
 refine(hn _ hm0).app1 ?_
 simp -implicitDefEqProofs (maxSteps:=9^9) (disch:=omega) only[go_sem,simprocAttr,hidx,tav]
 have hd:l.headD []=l[0]:=by cases l with | nil=>exact absurd rfl hl | cons a b=>rfl
 refine aj.bE (Tryz.ah (S:=S) 40 Tryz.sM fs0 aD) l.length (fun _=>True) (fun i=>[(21,.int .i64 i)]) (fun i j=>σ++(.cells [.int .i64 0,.int .i64 0]:: .cells [.int .i64 ((l.take i).foldl (cD num) ⟨num l[0],num l[0]⟩).lo,.int .i64 ((l.take i).foldl (cD num) ⟨num l[0],num l[0]⟩).hi]::j)) [] (by kernel_rfl) rfl (by simp[upd,ins,aw,ae]) trivial ?_ ?_
 ·intro i j hi _ ih
  have hmi:l[i]∈l:=List.getElem_mem hi
  have h3i:=h3 _ hmi
  simp -implicitDefEqProofs (maxSteps:=9^9) (disch:=omega) only[go_sem,simprocAttr,tav]
  refine(hn _ hmi).app1 ?_
  simp -implicitDefEqProofs (maxSteps:=9^9) (disch:=omega) only[go_sem,simprocAttr,tav]
  refine(hn _ hmi).app1 ?_
  simp -implicitDefEqProofs (maxSteps:=9^9) (disch:=omega) only[go_sem,simprocAttr,tav]
  refine(ih trivial (j++[_])).ay (by rw[lb _ _ _ _ hi];rfl) (by simp[upd,ins,aw,ae,tav])
 ·intro j _
  simp -implicitDefEqProofs (maxSteps:=9^9) (disch:=omega) only[go_sem,simprocAttr,tav]
  have hsp:bH num l=l.foldl (cD num) ⟨num l[0],num l[0]⟩:=by rw[bH,hd]
  rw[hsp]
  simp[Rng.av,wk,wk1,wkL,wk0]
end Go.Proofs
