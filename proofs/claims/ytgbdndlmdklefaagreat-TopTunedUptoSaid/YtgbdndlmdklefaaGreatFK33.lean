/- The environment in which the first append to an empty literal of some types gives a slice that is written into. -/
import Derived.Test.YtgbdndlmdklefaaGreatFK32
import Derived.Test.YtgbdndlmdklefaaGreatFK28
import Derived.Test.YtgbdndlmdklefaaGreatFK27
import Derived.Test.YtgbdndlmdklefaaGreatFK30
import Derived.Test.YtgbdndlmdklefaaGreatFK12
set_option linter.unusedSimpArgs false
set_option linter.unusedVariables false
set_option maxRecDepth 100000
set_option maxHeartbeats 40000000
namespace Go.Proofs
open Go Go.Mu Go.Ins
theorem driftN_of{r:Ros}(hr:r.Head){s:Nat}(hs:s<2^r.hands.toNat){u:List Int}(hu:u∈ratesR r s):driftN u=s:=by
 obtain⟨_,_,g1,g2⟩:=ratesR_sup hr hu
 have hh:=hr.hands
 apply Nat.eq_of_testBit_eq
 intro i
 rw[driftN,bitsOf_test]
 by_cases hi:i<r.hands.toNat
 ·have h4:i<4:=by omega
  have:=g1 i hi
  rw[decide_eq_true h4,Bool.true_and]
  by_cases hb:s.testBit i=true
  ·rw[hb,decide_eq_true (this.2 hb)]
  ·rw[Bool.eq_false_iff.2 hb]
   exact decide_eq_false fun h=>hb (this.1 h)
 ·have h0:=g2 i (by omega)
  have hsb:s.testBit i=false:=Nat.testBit_lt_two_pow (Nat.lt_of_lt_of_le hs (Nat.pow_le_pow_right (by omega) (by omega)))
  rw[hsb,decide_eq_false (p:=tg u i≠0) (by simp[h0]),Bool.and_false]
theorem explF_spec{r:Ros}{ds:List (List Int)}:∀(n k:Nat),(explF r ds n k=[]∧∀j,k≤j→j<k+n→foundR r ds j=[])∨∃m,k≤m∧m<k+n∧explF r ds n k=(foundR r ds m).foldl addX []∧foundR r ds m≠[]∧∀j,k≤j→j<m→foundR r ds j=[]
 | 0,k=> .inl ⟨rfl,fun j h1 h2=>by omega⟩
 | n+1,k=>by
  simp only[explF]
  by_cases h:foundR r ds k=[]
  ·rw[if_pos h]
   rcases explF_spec (r:=r) (ds:=ds) n (k+1) with⟨h1,h2⟩ | ⟨m,h1,h2,h3,h4,h5⟩
   ·refine .inl ⟨h1,fun j g1 g2=>?_⟩
    by_cases e:j=k
    ·subst e;exact h
    ·exact h2 j (by omega) (by omega)
   ·refine .inr ⟨m,by omega,by omega,h3,h4,fun j g1 g2=>?_⟩
    by_cases e:j=k
    ·subst e;exact h
    ·exact h5 j (by omega) g2
  ·rw[if_neg h]
   exact .inr ⟨k,Nat.le_refl _,by omega,rfl,h,fun j g1 g2=>by omega⟩
theorem explR_spec(r:Ros)(ds:List (List Int)):(explR r ds=[]∧∀j,j≤r.hands.toNat→foundR r ds j=[])∨∃m,m≤r.hands.toNat∧explR r ds=(foundR r ds m).foldl addX []∧foundR r ds m≠[]∧∀j,j<m→foundR r ds j=[]:=by
 rcases explF_spec (r:=r) (ds:=ds) (r.hands.toNat+1) 0 with⟨h1,h2⟩ | ⟨m,h1,h2,h3,h4,h5⟩
 ·exact .inl ⟨h1,fun j hj=>h2 j (by omega) (by omega)⟩
 ·exact .inr ⟨m,by omega,h3,h4,fun j hj=>h5 j (by omega) hj⟩
theorem foundR_mem{r:Ros}(hr:r.Head){ds:List (List Int)}{m:Nat}{u:List Int}:u∈foundR r ds m↔∃s,s<2^r.hands.toNat∧popN s=m∧u∈htruthsR r ds s:=by
 unfold foundR foundS
 simp only[List.mem_flatMap,List.mem_filter,List.mem_range,beq_iff_eq]
 exact⟨fun⟨s,⟨h1,h2⟩,h3⟩=>⟨s,h1,h2,h3⟩,fun⟨s,h1,h2,h3⟩=>⟨s,⟨h1,h2⟩,h3⟩⟩
theorem found_pop{r:Ros}(hr:r.Head){ds:List (List Int)}{m:Nat}{u:List Int}(h:u∈foundR r ds m):popN (driftN u)=m∧driftN u<2^r.hands.toNat∧u∈htruthsR r ds (driftN u):=by
 obtain⟨s,h1,h2,h3⟩:=(foundR_mem hr).1 h
 rw[driftN_of hr h1 (List.mem_filter.1 h3).1]
 exact⟨h2,h1,h3⟩
theorem nodup_sub{α:Type}[DecidableEq α]{T F:List α}(hT:T.Nodup)(hF:F.Nodup)(h:∀x∈T,x∈F):T.length≤F.length:=by
 have h1:T.Perm (F.filter fun i=>decide (i∈T)):=by
  rw[List.perm_ext_iff_of_nodup hT (hF.filter _)]
  intro i
  rw[List.mem_filter,decide_eq_true_eq]
  exact⟨fun g=>⟨h i g,g⟩,fun g=>g.2⟩
 rw[h1.length_eq]
 exact List.length_filter_le _ _
theorem pop_few:∀m,((List.range 16).filter fun s=>popN s==m).length≤6:=by
 intro m
 have e:((List.range 16).filter fun s=>popN s==m)=(List.range 16).filter fun s=>popF s==m:=List.filter_congr fun s hs=>by
  rw[popF_eq s (by have:=List.mem_range.1 hs;omega)]
 rw[e]
 by_cases hm:m≤4
 ·rcases(by omega:m=0∨m=1∨m=2∨m=3∨m=4) with rfl | rfl | rfl | rfl | rfl<;> decide +kernel
 ·have:((List.range 16).filter fun s=>popF s==m)=[]:=by
   rw[List.filter_eq_nil_iff]
   intro s hs
   have h2:∀s∈List.range 16,popF s≤4:=by decide +kernel
   have:=h2 s hs
   simp;omega
  rw[this];simp
theorem drifts_few{r:Ros}(hr:r.Head)(ds:List (List Int)):(driftsL (explR r ds)).length≤6:=by
 have hh:=hr.hands
 rcases explR_spec r ds with⟨h1,_⟩ | ⟨m,_,h1,_,_⟩
 ·rw[h1];simp[driftsL]
 ·refine Nat.le_trans (nodup_sub (addX_nodup List.nodup_nil) (List.nodup_range.filter _) (F:=(List.range 16).filter fun s=>popN s==m) fun s hs=>?_) (pop_few m)
  rcases addX_mem.1 hs with h | h
  ·simp at h
  obtain⟨x,hx,rfl⟩:=List.mem_map.1 h
  rw[h1] at hx
  have hx':x∈foundR r ds m:=(addX_mem.1 hx).resolve_left (by simp)
  have:=found_pop hr hx'
  rw[List.mem_filter,List.mem_range,beq_iff_eq]
  have hp:(2:Nat)^r.hands.toNat≤2^4:=Nat.pow_le_pow_right (by omega) (by omega)
  exact⟨by omega,this.1⟩
theorem explR_iff{r:Ros}{ds:List (List Int)}{m:Nat}(h:explR r ds=(foundR r ds m).foldl addX []){u:List Int}:u∈explR r ds↔u∈foundR r ds m:=by
 rw[h,addX_mem];simp
end Go.Proofs
namespace Go.Proofs
open Go Go.Mu Go.Ins
variable {S:MC Tryz.prog}
def hplaceL(l:List Int)(x:Int):Int:=if x∈l then(l.idxOf x:Int) else -1
theorem hplace_at{l:List Int}{x:Int}{i:Nat}(hi:i<l.length)(h:x∉l.take i)(e:l[i]=x):hplaceL l x=i:=by
 have hm:x∈l:=by rw[← e];exact List.getElem_mem _
 unfold hplaceL
 rw[if_pos hm]
 have hs:l=l.take i++l[i]::l.drop (i+1):=by rw[← List.drop_eq_getElem_cons hi,List.take_append_drop]
 have:l.idxOf x=i:=by
  conv=>lhs;rw[hs]
  rw[List.idxOf_append,if_neg h,e]
  simp[List.idxOf_cons];omega
 rw[this]
theorem hplace_nonneg{l:List Int}{x:Int}:decide (0≤hplaceL l x)=l.contains x:=by
 unfold hplaceL
 by_cases h:x∈l
 ·rw[if_pos h];simp[h]
 ·rw[if_neg h];simp[h]
theorem hnotin_succ{l:List Int}{x:Int}{i:Nat}(hi:i<l.length)(h:x∉l.take i)(e:l[i]≠x):x∉l.take (i+1):=by
 rw[List.take_succ_eq_append_getElem hi,List.mem_append]
 intro hm
 rcases hm with hm | hm
 ·exact h hm
 ·simp at hm;exact e hm.symm
theorem hsindex_p(l:List Int)(x:Int)(hl:l.length≤4294967296):PureV S 181 [.list .no 1 (l.map (.int .i64)),.int .i64 x] (.int .i64 (hplaceL l x)):=by
 refine PvE (Tryz.envOK (S:=S) 19 (fun _=>([],[])) fs0 fs0_ok) (.int) Tryz.kp181 Tryz.func181 rfl ?_
 intro σ
 simp -implicitDefEqProofs (maxSteps:=9^9) (disch:=omega) only[go_sem,simprocAttr]
 refine ARun.forS (Tryz.envOK (S:=S) 19 (fun _=>([],[])) fs0 fs0_ok) l.length (fun i=>x∉l.take i) (fun i=>[(8,.int .i64 i)]) (fun _ _=>σ) [] (by kernel_rfl) rfl (by simp[upd,ins,subF,lookA]) (by simp) ?_ ?_
 ·intro i j hi hp ih
  have hli:idx (l.map (AV.int .i64)) (i:Int)=some (.int .i64 l[i]):=by rw[idx_nat hi]
  have hat:=hplace_at (x:=x) hi hp
  have hns:=hnotin_succ (x:=x) hi hp
  generalize l[i]=y at hli hat hns
  clear hp
  by_cases hy:x=y
  ·rw[hat hy.symm]
   simp -implicitDefEqProofs (maxSteps:=9^9) (disch:=omega) only[go_sem,simprocAttr,hli]
  ·simp -implicitDefEqProofs (maxSteps:=9^9) (disch:=omega) only[go_sem,simprocAttr,hli]
   exact(ih (hns fun e=>hy e.symm) []).castS rfl (by simp[upd,ins,subF,lookA])
 ·intro j hp
  rw[List.take_length] at hp
  have:hplaceL l x= -1:=by unfold hplaceL;rw[if_neg hp]
  rw[this]
  simp -implicitDefEqProofs (maxSteps:=9^9) (disch:=omega) only[go_sem,simprocAttr]
def hsindex_s:=spec2 tIs tI fun l x=>if l.length≤4294967296 then some (.int .i64 (hplaceL l x)) else none
theorem hsindex_ok:∀xs v,hsindex_s xs=some v→PureV S 181 xs v:=
 spec2_ok fun l x v h=>by have h:=someIf h;rw[← h.2];exact hsindex_p l x h.1
def fs406(f:FuncId)(xs:List AV):Option AV:=if f=181 then hsindex_s xs else fs405 f xs
theorem fs406_ok{S:MC Tryz.prog}:∀f xs v,fs406 f xs=some v→PureV S f xs v:=by
 intro f xs v h
 unfold fs406 at h
 split at h
 ·rename_i e;subst e;exact hsindex_ok _ _ h
 exact fs405_ok _ _ _ h
attribute [go_sem] fs406 hsindex_s
theorem hscontains_p(l:List Int)(x:Int)(hl:l.length≤4294967296):PureV S 140 [.list .no 1 (l.map (.int .i64)),.int .i64 x] (.bool (l.contains x)):=by
 refine PvE (Tryz.envOK (S:=S) 9 (fun _=>([],[])) fs406 fs406_ok) (.bool) Tryz.kp140 Tryz.func140 rfl ?_
 intro σ
 have hd:=hplace_nonneg (l:=l) (x:=x)
 rw[← hd]
 clear hd
 generalize hz:hplaceL l x=z
 by_cases h0:0≤z
 ·have e:decide (0≤z)=true:=by simpa using h0
  rw[e]
  simp -implicitDefEqProofs (maxSteps:=9^9) (disch:=omega) only[go_sem,simprocAttr,hz]
 ·have e:decide (0≤z)=false:=by simpa using h0
  rw[e]
  simp -implicitDefEqProofs (maxSteps:=9^9) (disch:=omega) only[go_sem,simprocAttr,hz]
def hscontains_s:=spec2 tIs tI fun l x=>if l.length≤4294967296 then some (.bool (l.contains x)) else none
theorem hscontains_ok:∀xs v,hscontains_s xs=some v→PureV S 140 xs v:=
 spec2_ok fun l x v h=>by have h:=someIf h;rw[← h.2];exact hscontains_p l x h.1
def fs407(f:FuncId)(xs:List AV):Option AV:=if f=140 then hscontains_s xs else fs406 f xs
theorem fs407_ok{S:MC Tryz.prog}:∀f xs v,fs407 f xs=some v→PureV S f xs v:=by
 intro f xs v h
 unfold fs407 at h
 split at h
 ·rename_i e;subst e;exact hscontains_ok _ _ h
 exact fs406_ok _ _ _ h
attribute [go_sem] fs407 hscontains_s
end Go.Proofs
namespace Go.Proofs
open Go Go.Mu Go.Ins
def fewL(r:Ros):List (List Int):=if knownE r []=0 then setsL (explR r (entsL r)) else[]
theorem setsL_len(L:List (List Int)):(setsL L).length=(driftsL L).length:=by
 unfold setsL;rw[(isort_perm _).length_eq,List.length_map]
theorem setsL_el{L:List (List Int)}{x:List Int}(h:x∈setsL L):x.length≤4:=by
 obtain⟨s,_,rfl⟩:=List.mem_map.1 ((isort_perm _).mem_iff.1 h)
 exact listN_len s
theorem fewL_plain(r:Ros):Plain (.tup [.list .no 1 ((fewL r).map ints1),.int .i64 (knownE r [])]):= .tup (by
 simp only[List.mem_cons,List.not_mem_nil,or_false,forall_eq_or_imp,forall_eq]
 exact⟨.map fun x _=>Plain.cells_list (ints1_good x).2,.int⟩)
theorem explR_ne{r:Ros}{ws:List Int}(h:knownE r ws=0):explR r (entsL r)≠[]:=by
 intro e
 unfold knownE at h
 by_cases h1:rosE r≠0
 ·rw[if_pos h1] at h;exact h1 h
 ·rw[if_neg h1] at h
  by_cases h2:firstNZ ws≠0
  ·rw[if_pos h2] at h;exact h2 h
  ·rw[if_neg h2,if_pos e] at h;cases h
theorem fewest_p(r:Ros)(hf:r.Fit):PureV SBes 22 [r.av] (.tup [.list .no 1 ((fewL r).map ints1),.int .i64 (knownE r [])]):=by
 refine PvE (Tryz.envOK (S:=SBes) 18 (fun _=>([],[])) fs405 fs405_ok) (fewL_plain r) Tryz.kp22 Tryz.func22 rfl ?_
 intro σ
 simp only[Ros.av]
 simp -implicitDefEqProofs (maxSteps:=9^9) (disch:=omega) only[go_sem,simprocAttr]
 refine ACalls.weaken (l':=[r.av,.list .no 1 (([]:List Int).map (.int .i64))]) ⟨⟨rfl,rfl,rfl,rfl,⟨rfl,.inl rfl,.inl rfl⟩,⟨rfl,.inl rfl,.inl rfl⟩,trivial⟩,⟨rfl,.inr rfl,.inl rfl⟩,trivial⟩ ?_
 refine known_c r hf [] (by simp) (fun hE j=>?_) (fun hO hg a j ha hm=>?_)
 ·have hE':(knownE r []=0)=False:=eq_false hE
  rw[show fewL r=[] from if_neg hE]
  simp -implicitDefEqProofs (maxSteps:=9^9) (disch:=omega) only[go_sem,simprocAttr,hE',rosZ]
 ·rw[show fewL r=setsL (explR r (entsL r)) from if_pos hO,hO]
  simp only[Ros.wav]
  simp -implicitDefEqProofs (maxSteps:=9^9) (disch:=omega) only[go_sem,simprocAttr]
  refine sets_c (explR r (entsL r)) (fun x hx=>(explR_ok hg.toHead hx).len) (explR_ne hO) (by have:=explR_len hg.toHead (ds:=entsL r);omega) (by have:=drifts_few hg.toHead (entsL r);omega) (a:=a) (by have:=hgetA (l:=[AObj.cells (r.wcells (entsL r))]) hm;simpa[Ros.wcells] using this) ?_
  simp -implicitDefEqProofs (maxSteps:=9^9) (disch:=omega) only[go_sem,simprocAttr]
end Go.Proofs
namespace Go.Proofs
open Go Go.Mu Go.Ins
variable {S:MC Tryz.prog}
end Go.Proofs
namespace Go.Proofs
open Go Go.Mu Go.Ins
theorem known_good{r:Ros}{ws:List Int}(h:knownE r ws=0):r.Good:=by
 have hr:rosE r=0:=by
  unfold knownE at h
  by_cases h1:rosE r≠0
  ·rw[if_pos h1] at h;exact h
  ·exact Classical.byContradiction h1
 unfold rosE at hr
 by_cases h2:headE r≠0
 ·rw[if_pos h2] at hr;exact absurd hr h2
 ·rw[if_neg h2] at hr
  exact Ros.good_of (Classical.byContradiction h2) hr
theorem fewL_few(r:Ros):(fewL r).length≤6∧∀x∈fewL r,x.length≤4:=by
 unfold fewL
 split
 ·rename_i h
  refine⟨?_,fun x hx=>setsL_el hx⟩
  rw[setsL_len]
  exact drifts_few (known_good h).toHead _
 ·simp
end Go.Proofs
namespace Go.Proofs
open Go Go.Mu Go.Ins
variable {S:MC Tryz.prog}
end Go.Proofs
namespace Go.Proofs
open Go Go.Mu Go.Ins
/-! The chapter's examples: what the kernel reckons. -/
def foundK(r:Ros)(ds:List (List Int))(many:Nat):List (List Int):=((List.range (2^r.hands.toNat)).filter fun s=>popF s==many).flatMap (htruthsR r ds)
def explK(r:Ros)(ds:List (List Int)):Nat→Nat→List (List Int)
 | 0,_=>[]
 | n+1,k=>if foundK r ds k=[] then explK r ds n (k+1) else(foundK r ds k).foldl addX []
theorem foundK_eq{r:Ros}(hr:r.hands.toNat≤4){ds:List (List Int)}{many:Nat}:foundR r ds many=foundK r ds many:=by
 unfold foundR foundS foundK
 congr 1
 refine List.filter_congr fun s hs=>?_
 have hp:(2:Nat)^r.hands.toNat≤2^4:=Nat.pow_le_pow_right (by omega) hr
 rw[popF_eq s (by have:=List.mem_range.1 hs;omega)]
theorem explK_eq{r:Ros}(hr:r.hands.toNat≤4){ds:List (List Int)}:∀n k,explF r ds n k=explK r ds n k
 | 0,k=>rfl
 | n+1,k=>by simp only[explF,explK,foundK_eq hr,explK_eq hr n (k+1)]
theorem chkE_one{x:Tn}{h:Int}(h1:0≤x.day∧x.day≤60)(h2: -1≤x.hand∧x.hand≤h-1)(h3:1≤x.due∧x.due≤100000)(hk:ck x.ear=0)(ht:x.ear.tones.length=1)(hn:truthsL x.ear≠[]) :
  chkE x h=((firstsL ((truthsL x.ear).map fun t=>tg t 0)).map (· - x.due),0):=by
 have ha:askL x.ear (oneE x.ear 0)=(truthsL x.ear,0):=by
  have h0:oneE x.ear 0=0:=by unfold oneE;rw[if_pos (by omega)]
  unfold askL knownL
  rw[if_neg (by simp[hk]),if_neg (by simp[h0]),if_neg (by simp[hk]),if_neg hn]
 unfold chkE valuesL
 rw[if_neg (fun c=>c h1),if_neg (fun c=>c h2),if_neg (fun c=>c h3),if_neg (fun c=>c hk),if_neg (by omega),ha]
 simp only[if_true]
 rw[sortL_asc (one_asc (okE_of_ck hk) ht).1]
def tnd(day by_ due lo hi:Int):Tn:=⟨day,by_,due,⟨0,[⟨lo,hi⟩],[]⟩⟩
theorem hfirstE_of{α:Type}{f:α→Int}:∀{l:List α},(∀x∈l,f x=0)→firstE f l=0
 | [],_=>rfl
 | x::l,h=>by
  show(if f x=0 then firstE f l else f x)=0
  rw[if_pos (h x (by simp))]
  exact hfirstE_of fun y hy=>h y (by simp[hy])
theorem truthsL_one(sl lo hi:Int)(rds:List Rd):truthsL ⟨sl,[⟨lo,hi⟩],rds⟩=(List.range (hi-lo+1).toNat).flatMap fun(k:Nat)=>allT ⟨sl,[⟨lo,hi⟩],rds⟩ 0 (setI [0,0,0] ((0:Nat):Int) (lo+k)) 1:=rfl
theorem trueT_chk{r:Ros}{rates:List Int}{w:Int}{x:Tn}{b:Int}(h:TrueT r rates w x b)(hw:0≤w∧w≤10)(hs:0≤r.skill∧r.skill≤3) :
  (chkE x r.hands).2=0∧∃d∈(chkE x r.hands).1, -r.skill≤d-offX r rates b x.day∧d-offX r rates b x.day≤r.skill:=by
 obtain⟨t,lo,hi,rds,⟨e1,e2⟩,g2,g3,g4⟩:=h.ear
 have hb:=h.by_in
 have hd:=h.day
 have hh:=h.hand
 have hdu:=h.due
 obtain⟨day,hand,due,ear⟩:=x
 simp only at g4 hd hh hdu e1 e2⊢
 subst g4
 have hck:ck ⟨0,[⟨lo,hi⟩],rds⟩= 0:=by
  unfold ck
  have hT:firstE ckT [(⟨lo,hi⟩: Rng)]=0:=by
   refine hfirstE_of (fun y hy=>?_)
   simp at hy;subst hy
   unfold ckT
   dsimp only
   repeat' split
   all_goals omega
  have hR:firstE (fun r=>ckR r (1:Nat)) rds=0:=by
   refine hfirstE_of (fun y hy=>?_)
   rcases g3 with rfl | rfl
   ·simp at hy
   ·simp at hy;subst hy
    unfold ckR
    simp only
    repeat' split
    all_goals omega
  have hl:rds.length≤1:=by rcases g3 with rfl | rfl<;> simp
  simp only[List.length_cons,List.length_nil,Nat.zero_add]
  rw[if_neg (by omega),if_neg (by omega),if_neg (by omega),if_neg (fun c=>c hT),if_neg (by omega)]
  exact hR
 have htm:[t,0,0]∈truthsL ⟨0,[⟨lo,hi⟩],rds⟩:=by
  rw[truthsL_one,List.mem_flatMap]
  refine⟨(t-lo).toNat,List.mem_range.2 (by omega),?_⟩
  have hts:setI [0,0,0] ((0:Nat):Int) (lo+((t-lo).toNat:Int))=[t,0,0]:=by
   rw[show lo+((t-lo).toNat:Int)=t by omega];rfl
  have hal:(rds.all fun r=>isR r 0 [t,0,0])=true:=by
   rcases g3 with rfl | rfl
   ·rfl
   ·simp only[List.all_cons,List.all_nil,Bool.and_true,isR,if_true,tg]
    exact decide_eq_true (by
     have:([t,0,0]:List Int).getD (Int.toNat 0) 0=t:=rfl
     rw[this];omega)
  rw[hts]
  show[t,0,0]∈if(rds.all fun r=>isR r 0 [t,0,0])=true then[[t,0,0]] else[]
  rw[if_pos hal];simp
 have hn:truthsL ⟨0,[⟨lo,hi⟩],rds⟩≠[]:=List.ne_nil_of_mem htm
 rw[chkE_one (by simp only;omega) (by simp only;omega) (by simp only;omega) hck rfl hn]
 refine⟨rfl,t-due,List.mem_map.2 ⟨t,?_,rfl⟩,by omega,by omega⟩
 have:t∈firstsL ((truthsL ⟨0,[⟨lo,hi⟩],rds⟩).map fun t=>tg t 0):=(addN_mem _ [] _).2 (.inr (List.mem_map.2 ⟨[t,0,0],htm,rfl⟩))
 exact this
theorem TrueR.head{H E w:Int}{r:Ros}{rates by_:List Int}(h:TrueR H E w r rates by_)(hH:H≤4)(hE:E≤5):headE r=0:=by
 have h1:=h.hands
 have h2:=h.skill
 have h3:=h.mn
 have h4:=h.mx
 have h5:=h.sl
 have h6:=h.el
 have hs:firstE (setE r.hands) r.sets=0:=hfirstE_of fun s hs=>by
  have:=h.set s hs
  unfold setE
  rw[if_neg (by omega),if_neg (by omega)]
 unfold headE
 rw[if_neg (by omega),if_neg (by omega),if_neg (by omega),if_neg (fun c=>c hs),if_neg (by omega)]
theorem TrueR.by_at{H E w:Int}{r:Ros}{rates by_:List Int}(h:TrueR H E w r rates by_){x:Tn}(hx:x∈r.ents):∃b,TrueT r rates w x b:=by
 obtain⟨i,hi,rfl⟩:=List.mem_iff_getElem.1 hx
 exact⟨_,h.ent i hi (by rw[h.bl];exact hi)⟩
theorem TrueR.entE{H E w:Int}{r:Ros}{rates by_:List Int}(h:TrueR H E w r rates by_)(hw:0≤w∧w≤10):entsE r=0:=by
 unfold entsE
 refine firstNZ_zero fun e he=>?_
 obtain⟨x,hx,rfl⟩:=List.mem_map.1 he
 obtain⟨b,hb⟩:=h.by_at hx
 exact(trueT_chk hb hw h.skill).1
theorem TrueR.ro{H E w:Int}{r:Ros}{rates by_:List Int}(h:TrueR H E w r rates by_)(hH:H≤4)(hE:E≤5)(hw:0≤w∧w≤10):rosE r=0:=by
 unfold rosE;rw[if_neg (fun c=>c (h.head hH hE))];exact h.entE hw
theorem allR_mem{r:Ros}(s:Nat):∀(m:Nat) (x:List Int) (a:Nat) (u:List Int),x.length=4→u.length=4→a+m≤4→(∀i:Nat,i<a→tg u i=tg x i)→(∀i:Nat,a≤i→i<a+m→if s.testBit i then r.mn≤tg u i∧tg u i≤r.mx∧tg u i≠0 else tg u i=tg x i)→(∀i:Nat,a+m≤i→tg u i=tg x i)→u∈allR r s m x a
 | 0,x,a,u,hx,hu,_,h1,_,h3=>by
  have:u=x:=by
   apply List.ext_getElem (by omega)
   intro i g1 g2
   have e:=(Nat.lt_or_ge i a).elim (h1 i) (fun g=>h3 i (by omega))
   unfold tg at e
   rw[Int.toNat_natCast,List.getD_eq_getElem?_getD,List.getD_eq_getElem?_getD,List.getElem?_eq_getElem g1,List.getElem?_eq_getElem g2] at e
   simpa using e
  rw[this];simp[allR]
 | m+1,x,a,u,hx,hu,ha,h1,h2,h3=>by
  have htg:∀(n:Int) (i:Nat),tg (setI x a n) i=if i=a then n else tg x i:=fun n i=>by
   unfold tg setI
   simp only[Int.toNat_natCast,List.getD_eq_getElem?_getD,List.getElem?_set]
   by_cases e:a=i
   ·subst e;simp[show a<x.length by omega]
   ·rw[if_neg e,if_neg (fun h=>e h.symm)]
  have ha2:=h2 a (Nat.le_refl _) (by omega)
  simp only[allR]
  by_cases hs:s.testBit a=true
  ·rw[if_pos hs] at ha2
   rw[if_pos hs,List.mem_flatMap]
   refine⟨(tg u a-r.mn).toNat,List.mem_range.2 (by omega),?_⟩
   have e:r.mn+((tg u a-r.mn).toNat:Int)=tg u a:=by omega
   rw[e,if_neg ha2.2.2]
   refine allR_mem s m (setI x a (tg u a)) (a+1) u (by simp[setI,hx]) hu (by omega) (fun i hi=>?_) (fun i g1 g2=>?_) (fun i hi=>?_)
   ·rw[htg]
    by_cases c:i=a
    ·rw[if_pos c,c]
    ·rw[if_neg c];exact h1 i (Nat.lt_of_le_of_ne (Nat.le_of_lt_succ hi) c)
   ·rw[htg,if_neg (show¬i=a by omega)];exact h2 i (by omega) (by omega)
   ·rw[htg,if_neg (show¬i=a by omega)];exact h3 i (by omega)
  ·rw[if_neg hs] at ha2
   rw[if_neg hs]
   refine allR_mem s m x (a+1) u hx hu (by omega) (fun i hi=>?_) (fun i g1 g2=>h2 i (by omega) (by omega)) (fun i hi=>h3 i (by omega))
   by_cases c:i=a
   ·rw[c];exact ha2
   ·exact h1 i (by omega)
def padR(rates:List Int):List Int:=rates++List.replicate (4-rates.length) 0
theorem padR_tg(rates:List Int)(i:Int):tg (padR rates) i=tg rates i:=by
 unfold tg padR
 simp only[List.getD,List.getElem?_append,List.getElem?_replicate]
 split
 ·rfl
 ·rename_i h
  rw[List.getElem?_eq_none (by omega)]
  split<;> rfl
theorem TrueR.truth{H E w:Int}{r:Ros}{rates by_:List Int}(h:TrueR H E w r rates by_)(hH:H≤4)(hE:E≤5)(hw:0≤w∧w≤10):padR rates∈htruthsR r (entsL r) (driftN (padR rates))∧driftN (padR rates)<2^r.hands.toNat:=by
 have h1:=h.hands
 have hrl:=h.rl
 have hpl:(padR rates).length=4:=by unfold padR;rw[List.length_append,List.length_replicate];omega
 have hbig:∀i:Nat,rates.length≤i→tg (padR rates) i=0:=fun i hi=>by
  rw[padR_tg];unfold tg;rw[Int.toNat_natCast,List.getD_eq_getElem?_getD,List.getElem?_eq_none hi];rfl
 have hbit:∀i,(driftN (padR rates)).testBit i=(decide (i<4)&&decide (tg (padR rates) i≠0)):=fun i=>by unfold driftN;rw[bitsOf_test]
 constructor
 ·unfold htruthsR
  rw[List.mem_filter]
  constructor
  ·refine allR_mem _ _ _ _ _ rfl hpl (by omega) (fun i hi=>by omega) (fun i g1 g2=>?_) (fun i hi=>?_)
   ·have h0:tg ([0,0,0,0]:List Int) i=0:=by
     match i with
     | 0=>rfl
     | 1=>rfl
     | 2=>rfl
     | 3=>rfl
     | i+4=>unfold tg;rw[Int.toNat_natCast];rfl
    rw[h0,hbit,decide_eq_true (show i<4 by omega),Bool.true_and]
    by_cases hz:tg (padR rates) i=0
    ·rw[decide_eq_false (fun c=>c hz),if_neg (by simp)];exact hz
    ·rw[decide_eq_true hz,if_pos rfl]
     have hlt:i<rates.length:=by omega
     have e:tg (padR rates) i=rates[i]:=by rw[padR_tg];unfold tg;rw[Int.toNat_natCast,List.getD_eq_getElem?_getD,List.getElem?_eq_getElem hlt];rfl
     have:=h.rate _ (List.getElem_mem hlt)
     rw[← e] at this
     rcases this with g | g
     ·exact absurd g hz
     ·exact⟨g.1,g.2,hz⟩
   ·rw[hbig i (by omega)]
    match i with
    | 0=>rfl
    | 1=>rfl
    | 2=>rfl
    | 3=>rfl
    | i+4=>unfold tg;rw[Int.toNat_natCast];rfl
  ·unfold isB
   rw[List.all_eq_true]
   intro i hi
   have hi':=List.mem_range.1 hi
   have hT:=h.ent i hi' (by rw[h.bl];exact hi')
   have hb:=hT.by_in
   rw[List.any_eq_true]
   refine⟨(by_[i]'(by rw[h.bl];exact hi')).toNat,List.mem_range.2 (by omega),?_⟩
   rw[Int.toNat_of_nonneg hb.1]
   obtain⟨_,d,hd,e1,e2⟩:=trueT_chk hT hw h.skill
   unfold byB
   have hgd:r.ents.getD i default=r.ents[i]:=by simp[List.getD,List.getElem?_eq_getElem hi']
   have hgs:(entsL r).getD i []=(chkE r.ents[i] r.hands).1:=by
    unfold entsL;simp[List.getD,List.getElem?_eq_getElem hi']
   rw[hgd,hgs,if_neg (by rcases hT.hand with g | g<;> omega),List.any_eq_true]
   have ho:offX r (padR rates) (by_[i]'(by rw[h.bl];exact hi')) r.ents[i].day=offX r rates (by_[i]'(by rw[h.bl];exact hi')) r.ents[i].day:=by unfold offX;rw[padR_tg]
   exact⟨d,hd,decide_eq_true (by rw[ho];exact⟨e1,e2⟩)⟩
 ·refine Nat.lt_pow_two_of_testBit _ fun i hi=>?_
  rw[hbit]
  by_cases hz:tg (padR rates) i=0
  ·rw[decide_eq_false (p:=tg (padR rates) i≠0) (fun c=>c hz),Bool.and_false]
  ·exact absurd (hbig i (by omega)) hz
theorem TrueR.expl{H E w:Int}{r:Ros}{rates by_:List Int}(h:TrueR H E w r rates by_)(hH:H≤4)(hE:E≤5)(hw:0≤w∧w≤10):explR r (entsL r)≠[]:=by
 obtain⟨t1,t2⟩:=h.truth hH hE hw
 have hhd:=Ros.head_of (h.head hH hE)
 intro e
 rcases explR_spec r (entsL r) with⟨_,g⟩ | ⟨m,_,g1,g2,_⟩
 ·have hle:popN (driftN (padR rates))≤r.hands.toNat:=by
   have h4:=hhd.hands
   have hp:∀n s,s<2^n→popN s≤n:=by
    intro n
    induction n with
    | zero=>
     intro s hs
     have:s=0:=by simpa using hs
     subst this
     rw[popN_zero];omega
    | succ n ih=>
     intro s hs
     rw[popN_step]
     have:=ih (s/2) (by rw[Nat.pow_succ] at hs;omega)
     omega
   exact hp _ _ t2
  have:=g _ hle
  have hm:=(foundR_mem hhd (m:=popN (driftN (padR rates)))).2 ⟨_,t2,rfl,t1⟩
  rw[this] at hm;simp at hm
 ·rw[g1] at e;exact g2 (addX_nil.1 e)
theorem TrueR.known{H E w:Int}{r:Ros}{rates by_:List Int}(h:TrueR H E w r rates by_)(hH:H≤4)(hE:E≤5)(hw:0≤w∧w≤10){ws:List Int}(hz:firstNZ ws=0):knownE r ws=0:=by
 unfold knownE
 rw[if_neg (fun c=>c (h.ro hH hE hw)),if_neg (fun c=>c hz),if_neg (h.expl hH hE hw)]
end Go.Proofs
namespace Go.Proofs
open Go Go.Mu
variable {S:MC Tryz.prog}
attribute [go_sem] tRngs_dec
theorem ARun.once{E:Env}(hE:EnvOK E){ro:Option Nat}{c:Code}{k:List Item}{kp:Nat→Bool}{tm sl:List (Nat×AV)}{σ:List AObj}{Q:Post}
  (hO:todoOK E (.code c:: .inLoop c::k)=true) (h:ev E ro 100000 (.code c:: .inLoop c::k) ⟨kp,[],sl⟩ σ Q):ARun E ro (.code (.loop c)::k) ⟨kp,tm,sl⟩ σ Q:=
 ARun.anew (fr:=⟨kp,tm,sl⟩) (.loop (ev_sound hE hO h))
theorem same_step{α:Type}[DecidableEq α]{a b:List α}{i:Nat}(hl:a.length=b.length)(h:i<a.length)(ht:a.take i=b.take i):(a.take (i+1)=b.take (i+1))↔a[i]=b[i]'(by omega):=by
 have ta:=List.take_succ_eq_append_getElem h
 have tb:=List.take_succ_eq_append_getElem (l:=b) (i:=i) (by omega)
 rw[ta,tb,ht]
 simp only[List.append_cancel_left_eq,List.cons.injEq,and_true]
theorem sameInts_p(a b:List Int)(hl:a.length≤4294967296)(hl2:b.length≤4294967296):PureV S 51 [.list .no 1 (a.map (.int .i64)),.list .no 1 (b.map (.int .i64))] (.bool (decide (a=b))):=by
 refine PvE (Tryz.envOK (S:=S) 31 Tryz.ord51 fs0 fs0_ok) (.bool) Tryz.kp51 Tryz.func51 rfl ?_
 intro σ
 by_cases hlen:a.length=b.length
 ·have hz:((a.length:Int)=b.length):=by omega
  simp -implicitDefEqProofs (maxSteps:=9^9) (disch:=omega) only[go_sem,simprocAttr]
  refine ARun.loopJ (Tryz.envOK (S:=S) 31 Tryz.ord51 fs0 fs0_ok) (α:=Nat×Bool) (fun p=>a.length-p.1) (fun p τ=>τ=σ∧p.1≤a.length∧p.2=decide (a.take p.1=b.take p.1)) (fun p=>[(5,.bool p.2),(6,.int .i64 p.1)]) (0,true) (by kernel_rfl) (by simp[upd,ins,subF,lookA]) ⟨rfl,Nat.zero_le _,by simp⟩ ?_
  rintro⟨i,c⟩ τ ⟨rfl,hi,hc⟩ ih
  simp only at hi hc ih
  cases c
  ·simp -implicitDefEqProofs (maxSteps:=9^9) (disch:=omega) only[go_sem,simprocAttr]
   have:¬a=b:=fun e=>by subst e;simp at hc
   simp[this]
  ·have htk:a.take i=b.take i:=by simpa using hc
   by_cases hlt:i<a.length
   ·have hst:=same_step hlen hlt htk
    have hia:idx (a.map (AV.int .i64)) (i:Int)=some (.int .i64 a[i]):=idx_nat hlt
    have hib:idx (b.map (AV.int .i64)) (i:Int)=some (.int .i64 (b[i]'(by omega))):=idx_nat (by omega)
    generalize a[i]=x at hst hia
    generalize b[i]'(by omega)=y at hst hib
    clear hc htk
    simp -implicitDefEqProofs (maxSteps:=9^9) (disch:=omega) only[go_sem,simprocAttr,hia,hib]
    refine⟨fun h=>(ih (i+1,true) _ (by simp only;omega) ⟨rfl,by simp only;omega,?_⟩).castS rfl (by simp[upd,ins,subF,lookA]),fun h=>(ih (i+1,false) _ (by simp only;omega) ⟨rfl,by simp only;omega,?_⟩).castS rfl (by simp[upd,ins,subF,lookA])⟩
    ·simp[hst,h]
    ·simp[hst,h]
   ·have:i=a.length:=by omega
    subst this
    simp -implicitDefEqProofs (maxSteps:=9^9) (disch:=omega) only[go_sem,simprocAttr]
    have:a=b:=by rwa [List.take_length,hlen,List.take_length] at htk
    simp[this]
 ·have hz:¬((a.length:Int)=b.length):=by omega
  have:¬a=b:=fun e=>hlen (by rw[e])
  simp -implicitDefEqProofs (maxSteps:=9^9) (disch:=omega) only[go_sem,simprocAttr]
  refine ARun.once (Tryz.envOK (S:=S) 31 Tryz.ord51 fs0 fs0_ok) (by kernel_rfl) ?_
  simp -implicitDefEqProofs (maxSteps:=9^9) (disch:=omega) only[go_sem,simprocAttr]
  simp[this]
def sameInts_s:=spec2 tIs tIs fun a b=>if a.length≤4294967296∧b.length≤4294967296 then some (.bool (decide (a=b))) else none
theorem sameInts_ok:∀xs v,sameInts_s xs=some v→PureV S 51 xs v:=
 spec2_ok fun a b v h=>by have h:=someIf h;rw[← h.2];exact sameInts_p a b h.1.1 h.1.2
end Go.Proofs
namespace Go.Proofs
open Go Go.Mu Go.Ins
variable {S:MC Tryz.prog}
theorem hto_p(a b:Int):PureV S 60 [.int .i64 a,.int .i64 b] (Rng.mk a b).av:=by
 refine PvE (Tryz.envOK (S:=S) 8 (fun _=>([],[])) fs0 fs0_ok) (Rng.plain _) Tryz.kp60 Tryz.func60 rfl ?_
 intro σ
 simp -implicitDefEqProofs (maxSteps:=9^9) (disch:=omega) only[go_sem,simprocAttr,Rng.av]
def hto_s:=spec2 tI tI fun a b=>some (Rng.mk a b).av
theorem hto_ok:∀xs v,hto_s xs=some v→PureV S 60 xs v:=
 spec2_ok fun a b v h=>by simp only[Option.some.injEq] at h;rw[← h];exact hto_p a b
def fs408(f:FuncId)(xs:List AV):Option AV:=if f=60 then hto_s xs else if f=51 then sameInts_s xs else fs407 f xs
theorem fs408_ok{S:MC Tryz.prog}:∀f xs v,fs408 f xs=some v→PureV S f xs v:=by
 intro f xs v h
 unfold fs408 at h
 split at h
 ·rename_i e;subst e;exact hto_ok _ _ h
 split at h
 ·rename_i e;subst e;exact sameInts_ok _ _ h
 exact fs407_ok _ _ _ h
attribute [go_sem] fs408 hto_s sameInts_s
theorem hsameLists_p(a b:List (List Int))(hl:a.length≤4294967296)(hl2:b.length≤4294967296)(ha:∀x∈a,x.length≤4294967296)(hb:∀x∈b,x.length≤4294967296):PureV S 50 [.list .no 1 (a.map ints1),.list .no 1 (b.map ints1)] (.bool (decide (a=b))):=by
 refine PvE (Tryz.envOK (S:=S) 31 Tryz.ord50 fs408 fs408_ok) (.bool) Tryz.kp50 Tryz.func50 rfl ?_
 intro σ
 by_cases hlen:a.length=b.length
 ·have hz:((a.length:Int)=b.length):=by omega
  simp -implicitDefEqProofs (maxSteps:=9^9) (disch:=omega) only[go_sem,simprocAttr]
  refine ARun.loopJ (Tryz.envOK (S:=S) 31 Tryz.ord50 fs408 fs408_ok) (α:=Nat×Bool) (fun p=>a.length-p.1) (fun p τ=>τ=σ∧p.1≤a.length∧p.2=decide (a.take p.1=b.take p.1)) (fun p=>[(5,.bool p.2),(6,.int .i64 p.1)]) (0,true) (by kernel_rfl) (by simp[upd,ins,subF,lookA]) ⟨rfl,Nat.zero_le _,by simp⟩ ?_
  rintro⟨i,c⟩ τ ⟨rfl,hi,hc⟩ ih
  simp only at hi hc ih
  cases c
  ·simp -implicitDefEqProofs (maxSteps:=9^9) (disch:=omega) only[go_sem,simprocAttr]
   have:¬a=b:=fun e=>by subst e;simp at hc
   simp[this]
  ·have htk:a.take i=b.take i:=by simpa using hc
   by_cases hlt:i<a.length
   ·have hst:=same_step hlen hlt htk
    have hia:idx (a.map ints1) (i:Int)=some (ints1 a[i]):=idx_nat hlt
    have hib:idx (b.map ints1) (i:Int)=some (ints1 (b[i]'(by omega))):=idx_nat (by omega)
    have hxl:=ha _ (List.getElem_mem hlt)
    have hyl:=hb _ (List.getElem_mem (show i<b.length by omega))
    generalize a[i]=x at hst hia hxl
    generalize b[i]'(by omega)=y at hst hib hyl
    clear hc htk
    simp -implicitDefEqProofs (maxSteps:=9^9) (disch:=omega) only[go_sem,simprocAttr,hia,hib,ints1]
    refine⟨fun h=>(ih (i+1,true) _ (by simp only;omega) ⟨rfl,by simp only;omega,?_⟩).castS rfl (by simp[upd,ins,subF,lookA]),fun h=>(ih (i+1,false) _ (by simp only;omega) ⟨rfl,by simp only;omega,?_⟩).castS rfl (by simp[upd,ins,subF,lookA])⟩
    ·simp[hst,h]
    ·simp[hst,h]
   ·have:i=a.length:=by omega
    subst this
    simp -implicitDefEqProofs (maxSteps:=9^9) (disch:=omega) only[go_sem,simprocAttr]
    have:a=b:=by rwa [List.take_length,hlen,List.take_length] at htk
    simp[this]
 ·have hz:¬((a.length:Int)=b.length):=by omega
  have:¬a=b:=fun e=>hlen (by rw[e])
  simp -implicitDefEqProofs (maxSteps:=9^9) (disch:=omega) only[go_sem,simprocAttr]
  refine ARun.once (Tryz.envOK (S:=S) 31 Tryz.ord50 fs408 fs408_ok) (by kernel_rfl) ?_
  simp -implicitDefEqProofs (maxSteps:=9^9) (disch:=omega) only[go_sem,simprocAttr]
  simp[this]
end Go.Proofs
namespace Go.Proofs
open Go Go.Mu Go.Ins
theorem TrueR.fit{H E w:Int}{r:Ros}{rates by_:List Int}(h:TrueR H E w r rates by_)(hE:E≤5):r.Fit:=by
 have h1:=h.sl
 have h2:=h.el
 refine⟨by omega,by omega,fun x hx=>?_⟩
 obtain⟨b,hb⟩:=h.by_at hx
 obtain⟨t,lo,hi,rds,_,_,g3,g4⟩:=hb.ear
 rw[g4]
 rcases g3 with rfl | rfl<;> simp
end Go.Proofs
namespace Go.Proofs
open Go Go.Mu Go.Ins
variable {S:MC Tryz.prog}
attribute [go_sem] tRngs_dec
theorem hcopyEar_p(e:Ear)(h1:e.tones.length≤4294967296)(h2:e.rds.length≤4294967296):PureV S 92 [e.av] e.av:=by
 refine PvE (Tryz.envOK (S:=S) 13 Tryz.ord92 fs14 fs14_ok) (Ear.plain _) Tryz.kp92 Tryz.func92 rfl ?_
 intro σ
 simp only[Ear.av]
 simp -implicitDefEqProofs (maxSteps:=9^9) (disch:=omega) only[go_sem,simprocAttr]
theorem copyRoster_c(r:Ros)(hs:r.sets.length≤1000)(hn:r.ents.length≤1000)(he:∀x∈r.ents,x.ear.tones.length≤1000000∧x.ear.rds.length≤1000000)(σ:List AObj)(Q:AV→List AObj→Prop)(h:∀a b c j,Q (r.avv (σ.length+3) r.ents.length) (σ++(a::b::c:: .vec 6 (r.ents.map Tn.av)::j))) :
  ACalls S 30 [r.av] σ Q:=by
 refine ACalls.wkW ?_
 refine AcE (Tryz.envOK (S:=S) 35 (fun _=>([],[])) fs0 fs0_ok) Tryz.kp30 Tryz.func30 rfl ?_
 simp only[Ros.av]
 simp -implicitDefEqProofs (maxSteps:=9^9) (disch:=omega) only[go_sem,simprocAttr]
 refine ARun.ghostVK σ.length 5 6 (by rw[hget_at0];rfl) rfl ?_
 simp only[hset_at0,List.set_cons_succ,List.set_cons_zero,List.append_assoc,List.cons_append,List.nil_append,List.length_append,List.length_cons,List.length_nil,Nat.zero_add,Nat.reduceAdd]
 refine ARun.forS (Tryz.envOK (S:=S) 35 (fun _=>([],[])) fs0 fs0_ok) r.ents.length (fun _=>True) (fun i=>[(4,.int .i64 i)]) (fun i j=>σ++(.cells [.int .i64 r.hands,.int .i64 r.skill,.int .i64 r.mn,.int .i64 r.mx,.list (.own (σ.length+2)) 2 (r.sets.map Sg.av),.vec (σ.length+3) i]:: .cells [.int .i64 0,.int .i64 0,.int .i64 0,.int .i64 0,.list .full 0 [],.list .full 0 []]:: .tail r.sets.length 2:: .vec 6 ((r.ents.take i).map Tn.av)::j)) [] (by kernel_rfl) (by simp) (by simp[upd,ins,subF,lookA]) trivial ?_ ?_
 ·intro i j hi _ ih
  have hidx:idx (r.ents.map Tn.av) (i:Int)=some (Tn.av r.ents[i]):=idx_nat hi
  have hte:=he _ (List.getElem_mem hi)
  have htl:(r.ents.take i).length=i:=by rw[List.length_take];omega
  have hwi:IntKind.i64.wrap ((i:Int)+1)=((i+1:Nat):Int):=by rw[wrap64 (by omega) (by omega)];rfl
  rw[List.take_succ_eq_append_getElem hi,List.map_append] at ih
  generalize r.ents[i]=t at *
  have hav:t.av= .agg [.int .i64 t.day,.int .i64 t.hand,.int .i64 t.due,.int .i64 t.ear.slack,.list .no 2 (t.ear.tones.map Rng.av),.list .no 6 (t.ear.rds.map Rd.av)]:=rfl
  simp only[List.map_cons,List.map_nil] at ih
  rw[hav] at hidx ih
  have hcp:=hcopyEar_p (S:=S) t.ear (by omega) (by omega)
  simp only[Ear.av] at hcp
  simp -implicitDefEqProofs (maxSteps:=9^9) (disch:=omega) only[go_sem,simprocAttr,hidx]
  refine hcp _ _ ?_
  simp -implicitDefEqProofs (maxSteps:=9^9) (disch:=omega) only[go_sem,simprocAttr,hidx,hwi,htl]
  exact(ih trivial (j++[AObj.cells [.int .i64 t.day,.int .i64 t.hand,.int .i64 t.due,.int .i64 t.ear.slack,.list .no 2 (t.ear.tones.map Rng.av),.list .no 6 (t.ear.rds.map Rd.av)]])).castS (by simp) (by simp[upd,ins,subF,lookA])
 ·intro j _
  rw[List.take_length]
  simp -implicitDefEqProofs (maxSteps:=9^9) (disch:=omega) only[go_sem,simprocAttr]
  exact⟨_,wk_weak (by simp[wk,wkL,wk1,wk0,Ros.avv]),h _ _ _ _⟩
end Go.Proofs
namespace Go.Proofs
open Go Go.Mu Go.Ins
def setN(l:List Int):Nat:=l.foldl (fun s h=>s|||2^h.toNat) 0
end Go.Proofs
namespace Go.Proofs
open Go Go.Mu
variable {S:MC Tryz.prog}
def hcomb(n:Nat):Nat→Nat→List (List Int)
 | 0,_=>[[]]
 | m+1,a=>(List.range (n-a)).flatMap fun k=>(hcomb n m (a+k+1)).map fun l=>((a+k:Nat):Int)::l
theorem hcomb_mem{n:Nat}:∀{m a:Nat} {l:List Int},l∈hcomb n m a→l.length=m∧(∀x∈l,(a:Int)≤x∧x<n)∧l.Pairwise (· < ·)
 | 0,a,l,h=>by simp[hcomb] at h;subst h;simp
 | m+1,a,l,h=>by
  obtain⟨k,hk,h2⟩:=List.mem_flatMap.1 h
  obtain⟨u,hu,rfl⟩:=List.mem_map.1 h2
  obtain⟨h3,h4,h5⟩:=hcomb_mem hu
  have hk':=List.mem_range.1 hk
  refine⟨by simp[h3],fun x hx=>?_,?_⟩
  ·rcases List.mem_cons.1 hx with rfl | hx
   ·omega
   ·have:=h4 x hx;omega
  ·rw[List.pairwise_cons]
   exact⟨fun y hy=>by have:=h4 y hy;omega,h5⟩
end Go.Proofs
namespace Go.Proofs
open Go Go.Mu Go.Ins
theorem comb_set1:∀n<5,∀m<5,∀x∈hcomb n m 0,setN x<2^n∧popF (setN x)=m∧listN (setN x)=x:=by decide +kernel
theorem comb_set2:∀n<5,∀s<2^n,listN s∈hcomb n (popF s) 0∧setN (listN s)=s:=by decide +kernel
theorem comb_set:∀n<5,∀m<5,(∀x∈hcomb n m 0,setN x<2^n∧popF (setN x)=m∧listN (setN x)=x)∧(∀s<2^n,popF s=m→listN s∈hcomb n m 0∧setN (listN s)=s):=fun n hn m hm=>
 ⟨comb_set1 n hn m hm,fun s hs e=>by have:=comb_set2 n hn s hs;rw[e] at this;exact this⟩
theorem comb_ord:∀n<5,∀m<5,(hcomb n m 0).Nodup∧(hcomb n m 0).Pairwise (fun a b=>cmpL a b≤0):=by decide +kernel
theorem list_set:∀s<16,setN (listN s)=s:=by decide +kernel
def hdue(r:Ros)(m:Nat):List (List Int):=(hcomb r.hands.toNat m 0).filter fun l=>decide (htruthsR r (entsL r) (setN l)≠[])
theorem found_due{r:Ros}(hr:r.Head){m:Nat}(hm:m≤r.hands.toNat):foundR r (entsL r) m=[]↔hdue r m=[]:=by
 have hh:=hr.hands
 obtain⟨c1,c2⟩:=comb_set r.hands.toNat (by omega) m (by omega)
 have hp:(2:Nat)^r.hands.toNat≤2^4:=Nat.pow_le_pow_right (by omega) (by omega)
 constructor
 ·intro h
  unfold hdue
  rw[List.filter_eq_nil_iff]
  intro x hx hd
  obtain⟨g1,g2,_⟩:=c1 x hx
  obtain⟨u,hu⟩:=List.exists_mem_of_ne_nil _ (of_decide_eq_true hd)
  have:=(foundR_mem hr (m:=m)).2 ⟨setN x,g1,by rw[← popF_eq _ (by omega)];exact g2,hu⟩
  rw[h] at this;simp at this
 ·intro h
  refine List.eq_nil_iff_forall_not_mem.2 fun u hu=>?_
  obtain⟨s,g1,g2,g3⟩:=(foundR_mem hr).1 hu
  obtain⟨k1,k2⟩:=c2 s g1 (by rw[popF_eq _ (by omega)];exact g2)
  have:listN s∈hdue r m:=List.mem_filter.2 ⟨k1,decide_eq_true (by rw[k2];exact List.ne_nil_of_mem g3)⟩
  rw[h] at this;simp at this
theorem sets_due{r:Ros}(hr:r.Head){m:Nat}(hm:m≤r.hands.toNat)(he:explR r (entsL r)=(foundR r (entsL r) m).foldl addX []):setsL (explR r (entsL r))=hdue r m:=by
 have hh:=hr.hands
 obtain⟨c1,c2⟩:=comb_set r.hands.toNat (by omega) m (by omega)
 obtain⟨o1,o2⟩:=comb_ord r.hands.toNat (by omega) m (by omega)
 have hp:(2:Nat)^r.hands.toNat≤2^4:=Nat.pow_le_pow_right (by omega) (by omega)
 have hdl:∀s,s∈driftsL (explR r (entsL r))↔s<2^r.hands.toNat∧popN s=m∧htruthsR r (entsL r) s≠[]:=fun s=>by
  unfold driftsL
  rw[addX_mem,List.mem_map]
  constructor
  ·rintro(h | ⟨u,hu,rfl⟩)
   ·simp at h
   ·obtain⟨g1,g2,g3⟩:=found_pop hr ((explR_iff he).1 hu)
    exact⟨g2,g1,List.ne_nil_of_mem g3⟩
  ·rintro⟨g1,g2,g3⟩
   obtain⟨u,hu⟩:=List.exists_mem_of_ne_nil _ g3
   exact .inr ⟨u,(explR_iff he).2 ((foundR_mem hr).2 ⟨s,g1,g2,hu⟩),driftN_of hr g1 (List.mem_filter.1 hu).1⟩
 refine(isort_eq (le:=leL) leL_trans leL_total (fun _ _=>leL_anti) (o2.filter _) ?_).symm
 refine(List.perm_ext_iff_of_nodup (o1.filter _) ?_).2 fun x=>?_
 ·rw[List.Nodup,List.pairwise_map]
  refine(addX_nodup List.nodup_nil:(driftsL (explR r (entsL r))).Nodup).imp_of_mem fun{a b} ha hb hab e=>hab ?_
  have h1:=(hdl a).1 ha
  have h2:=(hdl b).1 hb
  rw[← list_set a (by omega),← list_set b (by omega),e]
 ·rw[List.mem_map,List.mem_filter,decide_eq_true_eq]
  constructor
  ·rintro⟨hx,hd⟩
   obtain⟨g1,g2,g3⟩:=c1 x hx
   exact⟨setN x,(hdl _).2 ⟨g1,by rw[← popF_eq _ (by omega)];exact g2,hd⟩,g3⟩
  ·rintro⟨s,hs,rfl⟩
   obtain⟨g1,g2,g3⟩:=(hdl s).1 hs
   obtain⟨k1,k2⟩:=c2 s g1 (by rw[popF_eq _ (by omega)];exact g2)
   exact⟨k1,by rw[k2];exact g3⟩
theorem fewL_some{r:Ros}(hg:r.Good)(hro:rosE r=0){m:Nat}(hm:m≤r.hands.toNat)(h1:hdue r m≠[])(h0:∀j,j<m→hdue r j=[]):knownE r []=0∧fewL r=hdue r m:=by
 rcases explR_spec r (entsL r) with⟨_,g⟩ | ⟨k,g1,g2,g3,g4⟩
 ·exact absurd ((found_due hg.toHead hm).1 (g m hm)) h1
 ·have hkm:k=m:=by
   rcases Nat.lt_trichotomy k m with c | c | c
   ·exact absurd ((found_due hg.toHead g1).2 (h0 k c)) g3
   ·exact c
   ·exact absurd ((found_due hg.toHead hm).1 (g4 m c)) h1
  subst hkm
  have hne:explR r (entsL r)≠[]:=by rw[g2];exact fun e=>g3 (addX_nil.1 e)
  have hk:knownE r []=0:=by
   unfold knownE
   rw[if_neg (fun c=>c hro),if_neg (fun c=>c rfl),if_neg hne]
  exact⟨hk,by unfold fewL;rw[if_pos hk];exact sets_due hg.toHead hm g2⟩
end Go.Proofs
namespace Go.Proofs
open Go Go.Mu
end Go.Proofs
namespace Go.Proofs
open Go Go.Mu Go.Ins
end Go.Proofs
