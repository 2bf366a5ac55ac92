/- Texts of a proof: lemmas. -/
import Derived.Test.YtgbdndlmdklefaaGreatGK35
import Derived.Test.YtgbdndlmdklefaaGreatGK19
import Derived.Test.YtgbdndlmdklefaaGreatGK32
import Derived.Test.YtgbdndlmdklefaaGreatGK17
import Derived.Laws.Bits64
import Derived.Test.YtgbdndlmdklefaaGreatGK33
import Derived.Test.YtgbdndlmdklefaaGreatGK21
set_option linter.unusedSimpArgs false
set_option linter.unusedVariables false
set_option maxRecDepth 100000
set_option maxHeartbeats 40000000
namespace Go.Proofs
open Go Go.Mu Go.Ins
theorem driftN_of{r:Ros}(hr:r.Head){s:Nat}(hs:s<2^r.hands.toNat){u:List Int}(hu:u∈ratesR r s):driftN u=s:=by
 obtain⟨_,_,g1,g2⟩:=ratesR_sup hr hu
 have hh:=hr.hands
 apply Nat.eq_of_testBit_eq
 intro i
 rw[driftN,bitsOf_test]
 by_cases hi:i<r.hands.toNat
 ·have h4:i<4:=by omega
  have:=g1 i hi
  rw[decide_eq_true h4,Bool.true_and]
  by_cases hb:s.testBit i=true
  ·rw[hb,decide_eq_true (this.2 hb)]
  ·rw[Bool.eq_false_iff.2 hb]
   exact decide_eq_false fun h=>hb (this.1 h)
 ·have h0:=g2 i (by omega)
  have hsb:s.testBit i=false:=Nat.testBit_lt_two_pow (Nat.lt_of_lt_of_le hs (Nat.pow_le_pow_right (by omega) (by omega)))
  rw[hsb,decide_eq_false (p:=tg u i≠0) (by simp[h0]),Bool.and_false]
theorem explF_spec{r:Ros}{ds:List (List Int)}:∀(n k:Nat),(explF r ds n k=[]∧∀j,k≤j→j<k+n→foundR r ds j=[])∨∃m,k≤m∧m<k+n∧explF r ds n k=(foundR r ds m).foldl addX []∧foundR r ds m≠[]∧∀j,k≤j→j<m→foundR r ds j=[]
 | 0,k=> .inl ⟨rfl,fun j h1 h2=>by omega⟩
 | n+1,k=>by
  simp only[explF]
  by_cases h:foundR r ds k=[]
  ·rw[if_pos h]
   rcases explF_spec (r:=r) (ds:=ds) n (k+1) with⟨h1,h2⟩ | ⟨m,h1,h2,h3,h4,h5⟩
   ·refine .inl ⟨h1,fun j g1 g2=>?_⟩
    by_cases e:j=k
    ·subst e;exact h
    ·exact h2 j (by omega) (by omega)
   ·refine .inr ⟨m,by omega,by omega,h3,h4,fun j g1 g2=>?_⟩
    by_cases e:j=k
    ·subst e;exact h
    ·exact h5 j (by omega) g2
  ·rw[if_neg h]
   exact .inr ⟨k,Nat.le_refl _,by omega,rfl,h,fun j g1 g2=>by omega⟩
theorem explR_spec(r:Ros)(ds:List (List Int)):(explR r ds=[]∧∀j,j≤r.hands.toNat→foundR r ds j=[])∨∃m,m≤r.hands.toNat∧explR r ds=(foundR r ds m).foldl addX []∧foundR r ds m≠[]∧∀j,j<m→foundR r ds j=[]:=by
 rcases explF_spec (r:=r) (ds:=ds) (r.hands.toNat+1) 0 with⟨h1,h2⟩ | ⟨m,h1,h2,h3,h4,h5⟩
 ·exact .inl ⟨h1,fun j hj=>h2 j (by omega) (by omega)⟩
 ·exact .inr ⟨m,by omega,h3,h4,fun j hj=>h5 j (by omega) hj⟩
theorem foundR_mem{r:Ros}(hr:r.Head){ds:List (List Int)}{m:Nat}{u:List Int}:u∈foundR r ds m↔∃s,s<2^r.hands.toNat∧popN s=m∧u∈htruthsR r ds s:=by
 unfold foundR foundS
 simp only[List.mem_flatMap,List.mem_filter,List.mem_range,beq_iff_eq]
 exact⟨fun⟨s,⟨h1,h2⟩,h3⟩=>⟨s,h1,h2,h3⟩,fun⟨s,h1,h2,h3⟩=>⟨s,⟨h1,h2⟩,h3⟩⟩
theorem found_pop{r:Ros}(hr:r.Head){ds:List (List Int)}{m:Nat}{u:List Int}(h:u∈foundR r ds m):popN (driftN u)=m∧driftN u<2^r.hands.toNat∧u∈htruthsR r ds (driftN u):=by
 obtain⟨s,h1,h2,h3⟩:=(foundR_mem hr).1 h
 rw[driftN_of hr h1 (List.mem_filter.1 h3).1]
 exact⟨h2,h1,h3⟩
theorem nodup_sub{α:Type}[DecidableEq α]{T F:List α}(hT:T.Nodup)(hF:F.Nodup)(h:∀x∈T,x∈F):T.length≤F.length:=by
 have h1:T.Perm (F.filter fun i=>decide (i∈T)):=by
  rw[List.perm_ext_iff_of_nodup hT (hF.filter _)]
  intro i
  rw[List.mem_filter,decide_eq_true_eq]
  exact⟨fun g=>⟨h i g,g⟩,fun g=>g.2⟩
 rw[h1.length_eq]
 exact List.length_filter_le _ _
theorem pop_few:∀m,((List.range 16).filter fun s=>popN s==m).length≤6:=by
 intro m
 have e:((List.range 16).filter fun s=>popN s==m)=(List.range 16).filter fun s=>popF s==m:=List.filter_congr fun s hs=>by
  rw[popF_eq s (by have:=List.mem_range.1 hs;omega)]
 rw[e]
 by_cases hm:m≤4
 ·rcases(by omega:m=0∨m=1∨m=2∨m=3∨m=4) with rfl | rfl | rfl | rfl | rfl<;> decide +kernel
 ·have:((List.range 16).filter fun s=>popF s==m)=[]:=by
   rw[List.filter_eq_nil_iff]
   intro s hs
   have h2:∀s∈List.range 16,popF s≤4:=by decide +kernel
   have:=h2 s hs
   simp;omega
  rw[this];simp
theorem drifts_few{r:Ros}(hr:r.Head)(ds:List (List Int)):(driftsL (explR r ds)).length≤6:=by
 have hh:=hr.hands
 rcases explR_spec r ds with⟨h1,_⟩ | ⟨m,_,h1,_,_⟩
 ·rw[h1];simp[driftsL]
 ·refine Nat.le_trans (nodup_sub (addX_nodup List.nodup_nil) (List.nodup_range.filter _) (F:=(List.range 16).filter fun s=>popN s==m) fun s hs=>?_) (pop_few m)
  rcases addX_mem.1 hs with h | h
  ·simp at h
  obtain⟨x,hx,rfl⟩:=List.mem_map.1 h
  rw[h1] at hx
  have hx':x∈foundR r ds m:=(addX_mem.1 hx).resolve_left (by simp)
  have:=found_pop hr hx'
  rw[List.mem_filter,List.mem_range,beq_iff_eq]
  have hp:(2:Nat)^r.hands.toNat≤2^4:=Nat.pow_le_pow_right (by omega) (by omega)
  exact⟨by omega,this.1⟩
theorem explR_iff{r:Ros}{ds:List (List Int)}{m:Nat}(h:explR r ds=(foundR r ds m).foldl addX []){u:List Int}:u∈explR r ds↔u∈foundR r ds m:=by
 rw[h,addX_mem];simp
end Go.Proofs
namespace Go.Proofs
open Go Go.Mu Go.Ins
variable {S:MC Tryz.prog}
def hplaceL(l:List Int)(x:Int):Int:=if x∈l then(l.idxOf x:Int) else -1
theorem hplace_at{l:List Int}{x:Int}{i:Nat}(hi:i<l.length)(h:x∉l.take i)(e:l[i]=x):hplaceL l x=i:=by
 have hm:x∈l:=by rw[← e];exact List.getElem_mem _
 unfold hplaceL
 rw[if_pos hm]
 have hs:l=l.take i++l[i]::l.drop (i+1):=by rw[← List.drop_eq_getElem_cons hi,List.take_append_drop]
 have:l.idxOf x=i:=by
  conv=>lhs;rw[hs]
  rw[List.idxOf_append,if_neg h,e]
  simp[List.idxOf_cons];omega
 rw[this]
theorem hplace_nonneg{l:List Int}{x:Int}:decide (0≤hplaceL l x)=l.contains x:=by
 unfold hplaceL
 by_cases h:x∈l
 ·rw[if_pos h];simp[h]
 ·rw[if_neg h];simp[h]
theorem hnotin_succ{l:List Int}{x:Int}{i:Nat}(hi:i<l.length)(h:x∉l.take i)(e:l[i]≠x):x∉l.take (i+1):=by
 rw[List.take_succ_eq_append_getElem hi,List.mem_append]
 intro hm
 rcases hm with hm | hm
 ·exact h hm
 ·simp at hm;exact e hm.symm
theorem hsindex_p(l:List Int)(x:Int)(hl:l.length≤4294967296):PureV S 181 [.list .no 1 (l.map (.int .i64)),.int .i64 x] (.int .i64 (hplaceL l x)):=by
 refine PvE (Tryz.envOK (S:=S) 19 (fun _=>([],[])) fs0 fs0_ok) (.int) Tryz.kp181 Tryz.func181 rfl ?_
 intro σ
 simp -implicitDefEqProofs (maxSteps:=9^9) (disch:=omega) only[go_sem,simprocAttr]
 refine ARun.forS (Tryz.envOK (S:=S) 19 (fun _=>([],[])) fs0 fs0_ok) l.length (fun i=>x∉l.take i) (fun i=>[(8,.int .i64 i)]) (fun _ _=>σ) [] (by kernel_rfl) rfl (by simp[upd,ins,subF,lookA]) (by simp) ?_ ?_
 ·intro i j hi hp ih
  have hli:idx (l.map (AV.int .i64)) (i:Int)=some (.int .i64 l[i]):=by rw[idx_nat hi]
  have hat:=hplace_at (x:=x) hi hp
  have hns:=hnotin_succ (x:=x) hi hp
  generalize l[i]=y at hli hat hns
  clear hp
  by_cases hy:x=y
  ·rw[hat hy.symm]
   simp -implicitDefEqProofs (maxSteps:=9^9) (disch:=omega) only[go_sem,simprocAttr,hli]
  ·simp -implicitDefEqProofs (maxSteps:=9^9) (disch:=omega) only[go_sem,simprocAttr,hli]
   exact(ih (hns fun e=>hy e.symm) []).castS rfl (by simp[upd,ins,subF,lookA])
 ·intro j hp
  rw[List.take_length] at hp
  have:hplaceL l x= -1:=by unfold hplaceL;rw[if_neg hp]
  rw[this]
  simp -implicitDefEqProofs (maxSteps:=9^9) (disch:=omega) only[go_sem,simprocAttr]
def hsindex_s:=spec2 tIs tI fun l x=>if l.length≤4294967296 then some (.int .i64 (hplaceL l x)) else none
theorem hsindex_ok:∀xs v,hsindex_s xs=some v→PureV S 181 xs v:=
 spec2_ok fun l x v h=>by have h:=someIf h;rw[← h.2];exact hsindex_p l x h.1
def fs406(f:FuncId)(xs:List AV):Option AV:=if f=181 then hsindex_s xs else fs405 f xs
theorem fs406_ok{S:MC Tryz.prog}:∀f xs v,fs406 f xs=some v→PureV S f xs v:=by
 intro f xs v h
 unfold fs406 at h
 split at h
 ·rename_i e;subst e;exact hsindex_ok _ _ h
 exact fs405_ok _ _ _ h
attribute [go_sem] fs406 hsindex_s
theorem hscontains_p(l:List Int)(x:Int)(hl:l.length≤4294967296):PureV S 140 [.list .no 1 (l.map (.int .i64)),.int .i64 x] (.bool (l.contains x)):=by
 refine PvE (Tryz.envOK (S:=S) 9 (fun _=>([],[])) fs406 fs406_ok) (.bool) Tryz.kp140 Tryz.func140 rfl ?_
 intro σ
 have hd:=hplace_nonneg (l:=l) (x:=x)
 rw[← hd]
 clear hd
 generalize hz:hplaceL l x=z
 by_cases h0:0≤z
 ·have e:decide (0≤z)=true:=by simpa using h0
  rw[e]
  simp -implicitDefEqProofs (maxSteps:=9^9) (disch:=omega) only[go_sem,simprocAttr,hz]
 ·have e:decide (0≤z)=false:=by simpa using h0
  rw[e]
  simp -implicitDefEqProofs (maxSteps:=9^9) (disch:=omega) only[go_sem,simprocAttr,hz]
def hscontains_s:=spec2 tIs tI fun l x=>if l.length≤4294967296 then some (.bool (l.contains x)) else none
theorem hscontains_ok:∀xs v,hscontains_s xs=some v→PureV S 140 xs v:=
 spec2_ok fun l x v h=>by have h:=someIf h;rw[← h.2];exact hscontains_p l x h.1
def fs407(f:FuncId)(xs:List AV):Option AV:=if f=140 then hscontains_s xs else fs406 f xs
theorem fs407_ok{S:MC Tryz.prog}:∀f xs v,fs407 f xs=some v→PureV S f xs v:=by
 intro f xs v h
 unfold fs407 at h
 split at h
 ·rename_i e;subst e;exact hscontains_ok _ _ h
 exact fs406_ok _ _ _ h
attribute [go_sem] fs407 hscontains_s
end Go.Proofs
namespace Go.Proofs
open Go Go.Mu Go.Ins
def fewL(r:Ros):List (List Int):=if knownE r []=0 then setsL (explR r (entsL r)) else[]
theorem setsL_len(L:List (List Int)):(setsL L).length=(driftsL L).length:=by
 unfold setsL;rw[(isort_perm _).length_eq,List.length_map]
theorem setsL_el{L:List (List Int)}{x:List Int}(h:x∈setsL L):x.length≤4:=by
 obtain⟨s,_,rfl⟩:=List.mem_map.1 ((isort_perm _).mem_iff.1 h)
 exact listN_len s
theorem fewL_plain(r:Ros):Plain (.tup [.list .no 1 ((fewL r).map ints1),.int .i64 (knownE r [])]):= .tup (by
 simp only[List.mem_cons,List.not_mem_nil,or_false,forall_eq_or_imp,forall_eq]
 exact⟨.map fun x _=>Plain.cells_list (ints1_good x).2,.int⟩)
theorem explR_ne{r:Ros}{ws:List Int}(h:knownE r ws=0):explR r (entsL r)≠[]:=by
 intro e
 unfold knownE at h
 by_cases h1:rosE r≠0
 ·rw[if_pos h1] at h;exact h1 h
 ·rw[if_neg h1] at h
  by_cases h2:firstNZ ws≠0
  ·rw[if_pos h2] at h;exact h2 h
  ·rw[if_neg h2,if_pos e] at h;cases h
theorem fewest_p(r:Ros)(hf:r.Fit):PureV SBes 22 [r.av] (.tup [.list .no 1 ((fewL r).map ints1),.int .i64 (knownE r [])]):=by
 refine PvE (Tryz.envOK (S:=SBes) 18 (fun _=>([],[])) fs405 fs405_ok) (fewL_plain r) Tryz.kp22 Tryz.func22 rfl ?_
 intro σ
 simp only[Ros.av]
 simp -implicitDefEqProofs (maxSteps:=9^9) (disch:=omega) only[go_sem,simprocAttr]
 refine ACalls.weaken (l':=[r.av,.list .no 1 (([]:List Int).map (.int .i64))]) ⟨⟨rfl,rfl,rfl,rfl,⟨rfl,.inl rfl,.inl rfl⟩,⟨rfl,.inl rfl,.inl rfl⟩,trivial⟩,⟨rfl,.inr rfl,.inl rfl⟩,trivial⟩ ?_
 refine known_c r hf [] (by simp) (fun hE j=>?_) (fun hO hg a j ha hm=>?_)
 ·have hE':(knownE r []=0)=False:=eq_false hE
  rw[show fewL r=[] from if_neg hE]
  simp -implicitDefEqProofs (maxSteps:=9^9) (disch:=omega) only[go_sem,simprocAttr,hE',rosZ]
 ·rw[show fewL r=setsL (explR r (entsL r)) from if_pos hO,hO]
  simp only[Ros.wav]
  simp -implicitDefEqProofs (maxSteps:=9^9) (disch:=omega) only[go_sem,simprocAttr]
  refine sets_c (explR r (entsL r)) (fun x hx=>(explR_ok hg.toHead hx).len) (explR_ne hO) (by have:=explR_len hg.toHead (ds:=entsL r);omega) (by have:=drifts_few hg.toHead (entsL r);omega) (a:=a) (by have:=hgetA (l:=[AObj.cells (r.wcells (entsL r))]) hm;simpa[Ros.wcells] using this) ?_
  simp -implicitDefEqProofs (maxSteps:=9^9) (disch:=omega) only[go_sem,simprocAttr]
end Go.Proofs
namespace Go.Proofs
open Go Go.Mu Go.Ins
variable {S:MC Tryz.prog}
end Go.Proofs
namespace Go.Proofs
open Go Go.Mu Go.Ins
theorem known_good{r:Ros}{ws:List Int}(h:knownE r ws=0):r.Good:=by
 have hr:rosE r=0:=by
  unfold knownE at h
  by_cases h1:rosE r≠0
  ·rw[if_pos h1] at h;exact h
  ·exact Classical.byContradiction h1
 unfold rosE at hr
 by_cases h2:headE r≠0
 ·rw[if_pos h2] at hr;exact absurd hr h2
 ·rw[if_neg h2] at hr
  exact Ros.good_of (Classical.byContradiction h2) hr
theorem fewL_few(r:Ros):(fewL r).length≤6∧∀x∈fewL r,x.length≤4:=by
 unfold fewL
 split
 ·rename_i h
  refine⟨?_,fun x hx=>setsL_el hx⟩
  rw[setsL_len]
  exact drifts_few (known_good h).toHead _
 ·simp
end Go.Proofs
namespace Go.Proofs
open Go Go.Mu Go.Ins
variable {S:MC Tryz.prog}
end Go.Proofs
namespace Go.Proofs
open Go Go.Mu Go.Ins
/-! The chapter's examples: what the kernel reckons. -/
def foundK(r:Ros)(ds:List (List Int))(many:Nat):List (List Int):=((List.range (2^r.hands.toNat)).filter fun s=>popF s==many).flatMap (htruthsR r ds)
def explK(r:Ros)(ds:List (List Int)):Nat→Nat→List (List Int)
 | 0,_=>[]
 | n+1,k=>if foundK r ds k=[] then explK r ds n (k+1) else(foundK r ds k).foldl addX []
theorem foundK_eq{r:Ros}(hr:r.hands.toNat≤4){ds:List (List Int)}{many:Nat}:foundR r ds many=foundK r ds many:=by
 unfold foundR foundS foundK
 congr 1
 refine List.filter_congr fun s hs=>?_
 have hp:(2:Nat)^r.hands.toNat≤2^4:=Nat.pow_le_pow_right (by omega) hr
 rw[popF_eq s (by have:=List.mem_range.1 hs;omega)]
theorem explK_eq{r:Ros}(hr:r.hands.toNat≤4){ds:List (List Int)}:∀n k,explF r ds n k=explK r ds n k
 | 0,k=>rfl
 | n+1,k=>by simp only[explF,explK,foundK_eq hr,explK_eq hr n (k+1)]
theorem chkE_one{x:Tn}{h:Int}(h1:0≤x.day∧x.day≤60)(h2: -1≤x.hand∧x.hand≤h-1)(h3:1≤x.due∧x.due≤100000)(hk:ck x.ear=0)(ht:x.ear.tones.length=1)(hn:truthsL x.ear≠[]) :
  chkE x h=((firstsL ((truthsL x.ear).map fun t=>tg t 0)).map (· - x.due),0):=by
 have ha:askL x.ear (oneE x.ear 0)=(truthsL x.ear,0):=by
  have h0:oneE x.ear 0=0:=by unfold oneE;rw[if_pos (by omega)]
  unfold askL knownL
  rw[if_neg (by simp[hk]),if_neg (by simp[h0]),if_neg (by simp[hk]),if_neg hn]
 unfold chkE valuesL
 rw[if_neg (fun c=>c h1),if_neg (fun c=>c h2),if_neg (fun c=>c h3),if_neg (fun c=>c hk),if_neg (by omega),ha]
 simp only[if_true]
 rw[sortL_asc (one_asc (okE_of_ck hk) ht).1]
def tnd(day by_ due lo hi:Int):Tn:=⟨day,by_,due,⟨0,[⟨lo,hi⟩],[]⟩⟩
def loneR:Ros:=⟨2,3, -2,2,[],[tnd 5 (-1) 44000 44008 44012]⟩
theorem c4:chkE (tnd 5 (-1) 44000 44008 44012) 2=([8,9,10,11,12],0):=by
 rw[chkE_one (by decide) (by decide) (by decide) (by kernel_rfl) (by kernel_rfl) (by decide +kernel)]
 decide +kernel
theorem lone_ds:entsL loneR=[[8,9,10,11,12]]:=by
 simp only[entsL,loneR,List.map_cons,List.map_nil,c4]
theorem lone_e:entsE loneR=0:=by
 simp only[entsE,loneR,List.map_cons,List.map_nil,c4];rfl
theorem lone_x:explR loneR (entsL loneR)=[[1,0,0,0],[2,0,0,0],[0,1,0,0],[0,2,0,0]]:=by
 rw[lone_ds];unfold explR;rw[explK_eq (by decide)];decide +kernel
theorem lone_ro:rosE loneR=0:=by
 unfold rosE;rw[if_neg (by decide +kernel)];exact lone_e
theorem lone_k{ws:List Int}(h:firstNZ ws=0):knownE loneR ws=0:=by
 unfold knownE;rw[if_neg (fun c=>c lone_ro),if_neg (fun c=>c h),lone_x];rfl
theorem lone_few:fewL loneR=[[0],[1]]:=by
 unfold fewL;rw[if_pos (lone_k rfl),lone_x];decide +kernel
end Go.Proofs
namespace Go.Proofs
open Go Go.Mu
variable {S:MC Tryz.prog}
end Go.Proofs
namespace Go.Proofs
open Go Go.Mu
end Go.Proofs
namespace Go.Proofs
open Go Go.Mu
variable {S:MC Tryz.prog}
theorem newPot_c(l:List Int)(tk:Tok)(hl:l.length≤4294967296)(σ:List AObj)(Q:AV→List AObj→Prop)(h:∀s junk,Q (.ptr σ.length 0) (σ++(.cells [.int .u64 s]::junk))):ACalls S 19 [.list tk 1 (l.map (.int .i64))] σ Q:=by
 refine AcE (Tryz.envOK (S:=S) 41 Tryz.ord19 fs0 fs0_ok) Tryz.kp19 Tryz.func19 rfl ?_
 simp -implicitDefEqProofs (maxSteps:=9^9) (disch:=omega) only[go_sem,simprocAttr]
 refine ARun.forJ (Tryz.envOK (S:=S) 41 Tryz.ord19 fs0 fs0_ok) l.length (fun i τ=>∃s j,τ=σ++(.cells [.int .u64 s]::j)) (fun i=>[(4,.int .i64 i)]) (by kernel_rfl) (by simp[upd,ins,subF,lookA]) ⟨_,[],rfl⟩ ?_ ?_
 ·rintro i τ hi ⟨s,j,rfl⟩ ih
  simp -implicitDefEqProofs (maxSteps:=9^9) (disch:=omega) only[go_sem,simprocAttr]
  exact(ih _ ⟨_,_,rfl⟩).castS rfl (by simp[upd,ins,subF,lookA])
 ·rintro τ ⟨s,j,rfl⟩
  simp -implicitDefEqProofs (maxSteps:=9^9) (disch:=omega) only[go_sem,simprocAttr]
  exact h _ _
theorem ARun.once{E:Env}(hE:EnvOK E){ro:Option Nat}{c:Code}{k:List Item}{kp:Nat→Bool}{tm sl:List (Nat×AV)}{σ:List AObj}{Q:Post}
  (hO:todoOK E (.code c:: .inLoop c::k)=true) (h:ev E ro 100000 (.code c:: .inLoop c::k) ⟨kp,[],sl⟩ σ Q):ARun E ro (.code (.loop c)::k) ⟨kp,tm,sl⟩ σ Q:=
 ARun.anew (fr:=⟨kp,tm,sl⟩) (.loop (ev_sound hE hO h))
theorem same_step{α:Type}[DecidableEq α]{a b:List α}{i:Nat}(hl:a.length=b.length)(h:i<a.length)(ht:a.take i=b.take i):(a.take (i+1)=b.take (i+1))↔a[i]=b[i]'(by omega):=by
 have ta:=List.take_succ_eq_append_getElem h
 have tb:=List.take_succ_eq_append_getElem (l:=b) (i:=i) (by omega)
 rw[ta,tb,ht]
 simp only[List.append_cancel_left_eq,List.cons.injEq,and_true]
theorem sameInts_p(a b:List Int)(hl:a.length≤4294967296)(hl2:b.length≤4294967296):PureV S 51 [.list .no 1 (a.map (.int .i64)),.list .no 1 (b.map (.int .i64))] (.bool (decide (a=b))):=by
 refine PvE (Tryz.envOK (S:=S) 31 Tryz.ord51 fs0 fs0_ok) (.bool) Tryz.kp51 Tryz.func51 rfl ?_
 intro σ
 by_cases hlen:a.length=b.length
 ·have hz:((a.length:Int)=b.length):=by omega
  simp -implicitDefEqProofs (maxSteps:=9^9) (disch:=omega) only[go_sem,simprocAttr]
  refine ARun.loopJ (Tryz.envOK (S:=S) 31 Tryz.ord51 fs0 fs0_ok) (α:=Nat×Bool) (fun p=>a.length-p.1) (fun p τ=>τ=σ∧p.1≤a.length∧p.2=decide (a.take p.1=b.take p.1)) (fun p=>[(5,.bool p.2),(6,.int .i64 p.1)]) (0,true) (by kernel_rfl) (by simp[upd,ins,subF,lookA]) ⟨rfl,Nat.zero_le _,by simp⟩ ?_
  rintro⟨i,c⟩ τ ⟨rfl,hi,hc⟩ ih
  simp only at hi hc ih
  cases c
  ·simp -implicitDefEqProofs (maxSteps:=9^9) (disch:=omega) only[go_sem,simprocAttr]
   have:¬a=b:=fun e=>by subst e;simp at hc
   simp[this]
  ·have htk:a.take i=b.take i:=by simpa using hc
   by_cases hlt:i<a.length
   ·have hst:=same_step hlen hlt htk
    have hia:idx (a.map (AV.int .i64)) (i:Int)=some (.int .i64 a[i]):=idx_nat hlt
    have hib:idx (b.map (AV.int .i64)) (i:Int)=some (.int .i64 (b[i]'(by omega))):=idx_nat (by omega)
    generalize a[i]=x at hst hia
    generalize b[i]'(by omega)=y at hst hib
    clear hc htk
    simp -implicitDefEqProofs (maxSteps:=9^9) (disch:=omega) only[go_sem,simprocAttr,hia,hib]
    refine⟨fun h=>(ih (i+1,true) _ (by simp only;omega) ⟨rfl,by simp only;omega,?_⟩).castS rfl (by simp[upd,ins,subF,lookA]),fun h=>(ih (i+1,false) _ (by simp only;omega) ⟨rfl,by simp only;omega,?_⟩).castS rfl (by simp[upd,ins,subF,lookA])⟩
    ·simp[hst,h]
    ·simp[hst,h]
   ·have:i=a.length:=by omega
    subst this
    simp -implicitDefEqProofs (maxSteps:=9^9) (disch:=omega) only[go_sem,simprocAttr]
    have:a=b:=by rwa [List.take_length,hlen,List.take_length] at htk
    simp[this]
 ·have hz:¬((a.length:Int)=b.length):=by omega
  have:¬a=b:=fun e=>hlen (by rw[e])
  simp -implicitDefEqProofs (maxSteps:=9^9) (disch:=omega) only[go_sem,simprocAttr]
  refine ARun.once (Tryz.envOK (S:=S) 31 Tryz.ord51 fs0 fs0_ok) (by kernel_rfl) ?_
  simp -implicitDefEqProofs (maxSteps:=9^9) (disch:=omega) only[go_sem,simprocAttr]
  simp[this]
def sameInts_s:=spec2 tIs tIs fun a b=>if a.length≤4294967296∧b.length≤4294967296 then some (.bool (decide (a=b))) else none
theorem sameInts_ok:∀xs v,sameInts_s xs=some v→PureV S 51 xs v:=
 spec2_ok fun a b v h=>by have h:=someIf h;rw[← h.2];exact sameInts_p a b h.1.1 h.1.2
end Go.Proofs
namespace Go.Proofs
open Go Go.Mu Go.Ins
variable {S:MC Tryz.prog}
theorem hto_p(a b:Int):PureV S 60 [.int .i64 a,.int .i64 b] (Rng.mk a b).av:=by
 refine PvE (Tryz.envOK (S:=S) 8 (fun _=>([],[])) fs0 fs0_ok) (Rng.plain _) Tryz.kp60 Tryz.func60 rfl ?_
 intro σ
 simp -implicitDefEqProofs (maxSteps:=9^9) (disch:=omega) only[go_sem,simprocAttr,Rng.av]
def hto_s:=spec2 tI tI fun a b=>some (Rng.mk a b).av
theorem hto_ok:∀xs v,hto_s xs=some v→PureV S 60 xs v:=
 spec2_ok fun a b v h=>by simp only[Option.some.injEq] at h;rw[← h];exact hto_p a b
def fs408(f:FuncId)(xs:List AV):Option AV:=if f=60 then hto_s xs else if f=51 then sameInts_s xs else fs407 f xs
theorem fs408_ok{S:MC Tryz.prog}:∀f xs v,fs408 f xs=some v→PureV S f xs v:=by
 intro f xs v h
 unfold fs408 at h
 split at h
 ·rename_i e;subst e;exact hto_ok _ _ h
 split at h
 ·rename_i e;subst e;exact sameInts_ok _ _ h
 exact fs407_ok _ _ _ h
attribute [go_sem] fs408 hto_s sameInts_s
theorem hsameLists_p(a b:List (List Int))(hl:a.length≤4294967296)(hl2:b.length≤4294967296)(ha:∀x∈a,x.length≤4294967296)(hb:∀x∈b,x.length≤4294967296):PureV S 50 [.list .no 1 (a.map ints1),.list .no 1 (b.map ints1)] (.bool (decide (a=b))):=by
 refine PvE (Tryz.envOK (S:=S) 31 Tryz.ord50 fs408 fs408_ok) (.bool) Tryz.kp50 Tryz.func50 rfl ?_
 intro σ
 by_cases hlen:a.length=b.length
 ·have hz:((a.length:Int)=b.length):=by omega
  simp -implicitDefEqProofs (maxSteps:=9^9) (disch:=omega) only[go_sem,simprocAttr]
  refine ARun.loopJ (Tryz.envOK (S:=S) 31 Tryz.ord50 fs408 fs408_ok) (α:=Nat×Bool) (fun p=>a.length-p.1) (fun p τ=>τ=σ∧p.1≤a.length∧p.2=decide (a.take p.1=b.take p.1)) (fun p=>[(5,.bool p.2),(6,.int .i64 p.1)]) (0,true) (by kernel_rfl) (by simp[upd,ins,subF,lookA]) ⟨rfl,Nat.zero_le _,by simp⟩ ?_
  rintro⟨i,c⟩ τ ⟨rfl,hi,hc⟩ ih
  simp only at hi hc ih
  cases c
  ·simp -implicitDefEqProofs (maxSteps:=9^9) (disch:=omega) only[go_sem,simprocAttr]
   have:¬a=b:=fun e=>by subst e;simp at hc
   simp[this]
  ·have htk:a.take i=b.take i:=by simpa using hc
   by_cases hlt:i<a.length
   ·have hst:=same_step hlen hlt htk
    have hia:idx (a.map ints1) (i:Int)=some (ints1 a[i]):=idx_nat hlt
    have hib:idx (b.map ints1) (i:Int)=some (ints1 (b[i]'(by omega))):=idx_nat (by omega)
    have hxl:=ha _ (List.getElem_mem hlt)
    have hyl:=hb _ (List.getElem_mem (show i<b.length by omega))
    generalize a[i]=x at hst hia hxl
    generalize b[i]'(by omega)=y at hst hib hyl
    clear hc htk
    simp -implicitDefEqProofs (maxSteps:=9^9) (disch:=omega) only[go_sem,simprocAttr,hia,hib,ints1]
    refine⟨fun h=>(ih (i+1,true) _ (by simp only;omega) ⟨rfl,by simp only;omega,?_⟩).castS rfl (by simp[upd,ins,subF,lookA]),fun h=>(ih (i+1,false) _ (by simp only;omega) ⟨rfl,by simp only;omega,?_⟩).castS rfl (by simp[upd,ins,subF,lookA])⟩
    ·simp[hst,h]
    ·simp[hst,h]
   ·have:i=a.length:=by omega
    subst this
    simp -implicitDefEqProofs (maxSteps:=9^9) (disch:=omega) only[go_sem,simprocAttr]
    have:a=b:=by rwa [List.take_length,hlen,List.take_length] at htk
    simp[this]
 ·have hz:¬((a.length:Int)=b.length):=by omega
  have:¬a=b:=fun e=>hlen (by rw[e])
  simp -implicitDefEqProofs (maxSteps:=9^9) (disch:=omega) only[go_sem,simprocAttr]
  refine ARun.once (Tryz.envOK (S:=S) 31 Tryz.ord50 fs408 fs408_ok) (by kernel_rfl) ?_
  simp -implicitDefEqProofs (maxSteps:=9^9) (disch:=omega) only[go_sem,simprocAttr]
  simp[this]
end Go.Proofs
namespace Go.Proofs
open Go Go.Mu
variable {S:MC Tryz.prog}
def PotAt(σ:List AObj)(r:Nat):Prop:=∃s,hget σ r=some (.cells [.int .u64 s])
def pw(σ:List AObj)(r:Nat)(s:Int):List AObj:=hset σ r (.cells [.int .u64 s])
theorem pw_pw{σ:List AObj}{r:Nat}{s t:Int}:pw (pw σ r s) r t=pw σ r t:=hset_hset
theorem PotAt.pw{σ:List AObj}{r:Nat}(h:PotAt σ r)(s:Int):PotAt (pw σ r s) r:=by obtain⟨u,h⟩:=h;exact⟨s,hget_set h _⟩
theorem pw_self{σ:List AObj}{r:Nat}(h:PotAt σ r):∃s,pw σ r s=σ:=by obtain⟨s,h⟩:=h;exact⟨s,hset_same h⟩
theorem step_c(r:Nat)(σ:List AObj)(hp:PotAt σ r)(Q:AV→List AObj→Prop)(h:∀s' x,0≤x→x<18446744073709551616→Q (.int .u64 x) (pw σ r s')):ACalls S 102 [.ptr r 0] σ Q:=by
 obtain⟨s,hg⟩:=hp
 refine AcE (Tryz.envOK (S:=S) 31 (fun _=>([],[])) fs0 fs0_ok) Tryz.kp102 Tryz.func102 rfl ?_
 have hg2:=fun o=>hget_set hg o
 simp -implicitDefEqProofs (maxSteps:=9^9) (disch:=omega) only[go_sem,simprocAttr,hg,hg2]
 exact h _ _ (by rw[IntKind.wrap_u64];omega) (by rw[IntKind.wrap_u64];omega)
theorem upto_c(r:Nat)(most:Int)(hm:most<9223372036854775807)(σ:List AObj)(hp:PotAt σ r)(Q:AV→List AObj→Prop)(h:∀s' x,0≤x→x≤max 0 most→Q (.int .i64 x) (pw σ r s')):ACalls S 38 [.ptr r 0,.int .i64 most] σ Q:=by
 refine AcE (Tryz.envOK (S:=S) 15 (fun _=>([],[])) fs0 fs0_ok) Tryz.kp38 Tryz.func38 rfl ?_
 by_cases h1:most<1
 ·simp -implicitDefEqProofs (maxSteps:=9^9) (disch:=omega) only[go_sem,simprocAttr]
  obtain⟨s,hs⟩:=pw_self hp
  have:=h s 0 (by omega) (by omega)
  rwa [hs] at this
 ·have e2:IntKind.u64.wrap (most+1)=most+1:=by rw[IntKind.wrap_u64];omega
  simp -implicitDefEqProofs (maxSteps:=9^9) (disch:=omega) only[go_sem,simprocAttr,e2]
  refine step_c r σ hp _ fun s' x h2 h3=>?_
  have hy:0≤x.fdiv (2^min 11 64):=Int.fdiv_nonneg h2 (by decide)
  simp -implicitDefEqProofs (maxSteps:=9^9) (disch:=omega) only[go_sem,simprocAttr,e2]
  generalize x.fdiv (2^min 11 64)=y at hy⊢
  have h4:=Int.tmod_nonneg (most+1) hy
  have h5:=Int.tmod_lt_of_pos y (b:=most+1) (by omega)
  have e4:IntKind.i64.wrap (y.tmod (most+1))=y.tmod (most+1):=by rw[IntKind.wrap_i64];omega
  try rw[e4]
  exact h _ _ h4 (by omega)
theorem within_c(r:Nat)(lo hi:Int)(h1: -1000000000000≤lo∧lo≤1000000000000)(h2: -1000000000000≤hi∧hi≤1000000000000)(σ:List AObj)(hp:PotAt σ r)(Q:AV→List AObj→Prop)(h:∀s' x,lo≤x→x≤max lo hi→Q (.int .i64 x) (pw σ r s')):ACalls S 61 [.ptr r 0,.int .i64 lo,.int .i64 hi] σ Q:=by
 refine AcE (Tryz.envOK (S:=S) 14 (fun _=>([],[])) fs0 fs0_ok) Tryz.kp61 Tryz.func61 rfl ?_
 simp -implicitDefEqProofs (maxSteps:=9^9) (disch:=omega) only[go_sem,simprocAttr]
 refine upto_c r _ (by omega) σ hp _ fun s' x h3 h4=>?_
 simp -implicitDefEqProofs (maxSteps:=9^9) (disch:=omega) only[go_sem,simprocAttr]
 exact h _ _ (by omega) (by omega)
theorem odds_c(r:Nat)(n m:Int)(h1: -1000000000000≤n∧n≤1000000000000)(h2: -1000000000000≤m∧m≤1000000000000)(σ:List AObj)(hp:PotAt σ r)(Q:AV→List AObj→Prop)(h:∀s' b,Q (.bool b) (pw σ r s')):ACalls S 21 [.ptr r 0,.int .i64 n,.int .i64 m] σ Q:=by
 refine AcE (Tryz.envOK (S:=S) 13 (fun _=>([],[])) fs0 fs0_ok) Tryz.kp21 Tryz.func21 rfl ?_
 simp -implicitDefEqProofs (maxSteps:=9^9) (disch:=omega) only[go_sem,simprocAttr]
 refine upto_c r _ (by omega) σ hp _ fun s' x h3 h4=>?_
 simp -implicitDefEqProofs (maxSteps:=9^9) (disch:=omega) only[go_sem,simprocAttr]
 exact⟨fun _=>h _ _,fun _=>h _ _⟩
theorem of_c(r:Nat)(l:List Int)(tk:Tok)(hl:1≤l.length∧l.length≤1000)(σ:List AObj)(hp:PotAt σ r)(Q:AV→List AObj→Prop)(h:∀s' x,x∈l→Q (.int .i64 x) (pw σ r s')):ACalls S 39 [.ptr r 0,.list tk 1 (l.map (.int .i64))] σ Q:=by
 refine AcE (Tryz.envOK (S:=S) 16 (fun _=>([],[])) fs0 fs0_ok) Tryz.kp39 Tryz.func39 rfl ?_
 simp -implicitDefEqProofs (maxSteps:=9^9) (disch:=omega) only[go_sem,simprocAttr]
 refine upto_c r _ (by omega) σ hp _ fun s' x h3 h4=>?_
 simp -implicitDefEqProofs (maxSteps:=9^9) (disch:=omega) only[go_sem,simprocAttr,idx_tg]
 refine h _ _ ?_
 have hx:x.toNat<l.length:=by omega
 have:tg l x=l[x.toNat]:=by simp[tg,List.getD,List.getElem?_eq_getElem hx]
 rw[this];exact List.getElem_mem hx
theorem near_c(r:Nat)(n least most wide:Int)(h1:0≤least∧least≤n∧n≤most∧most≤1000000000)(h2:0≤wide∧wide≤1000000)(σ:List AObj)(hp:PotAt σ r)(Q:AV→List AObj→Prop)(h:∀s' a b,least≤a→a≤n→n≤b→b≤most→n-wide≤a→b≤n+wide→∀junk,Q (Rng.mk a b).av (pw σ r s'++junk)):ACalls S 122 [.ptr r 0,.int .i64 n,.int .i64 least,.int .i64 most,.int .i64 wide] σ Q:=by
 refine AcE (Tryz.envOK (S:=S) 32 (fun _=>([],[])) fs0 fs0_ok) Tryz.kp122 Tryz.func122 rfl ?_
 have hr:r<σ.length:=by obtain⟨s,hg⟩:=hp;exact hget_lt hg
 have pwa:∀l s,pw (σ++l) r s=pw σ r s++l:=fun l s=>by unfold pw hset;rw[List.set_append_left _ _ hr]
 have pota:∀l s,PotAt (pw σ r s++l) r:=fun l s=>by
  obtain⟨u,hg⟩:=hp.pw s
  exact⟨u,by rw[hget_app (hget_lt hg)];exact hg⟩
 have pwa2:∀l s t,pw (pw σ r s++l) r t=pw σ r t++l:=fun l s t=>by
  have:r<(pw σ r s).length:=by unfold pw;rw[length_hset];exact hr
  show hset (pw σ r s++l) r _=_
  unfold hset;rw[List.set_append_left _ _ this]
  show pw (pw σ r s) r t++l=_
  rw[pw_pw]
 have p0:PotAt (σ++[.cells [.int .i64 0,.int .i64 0]]) r:=by obtain⟨u,hg⟩:=hp;exact⟨u,by rw[hget_app hr];exact hg⟩
 have hof:∀(x:Int) (σ:List AObj) (hp:PotAt σ r) (Q:AV→List AObj→Prop),(∀s' y,(y=0∨y=x)→Q (.int .i64 y) (pw σ r s'))→ACalls S 39 [.ptr r 0,.list .full 1 [.int .i64 0,.int .i64 0,.int .i64 x]] σ Q:=fun x σ hp Q hq=>
  of_c r [0,0,x] .full (by simp) σ hp Q fun s' y hy=>hq s' y (by simpa using hy)
 simp -implicitDefEqProofs (maxSteps:=9^9) (disch:=omega) only[go_sem,simprocAttr]
 refine upto_c r wide (by omega) _ p0 _ fun s1 x1 a1 a2=>?_
 rw[pwa]
 simp -implicitDefEqProofs (maxSteps:=9^9) (disch:=omega) only[go_sem,simprocAttr]
 refine hof x1 _ (pota _ _) _ fun s2 y1 a3=>?_
 rw[pwa2]
 have b1:0≤y1∧y1≤wide:=by omega
 simp -implicitDefEqProofs (maxSteps:=9^9) (disch:=omega) only[go_sem,simprocAttr]
 refine upto_c r wide (by omega) _ (pota _ _) _ fun s3 x2 a5 a6=>?_
 rw[pwa2]
 simp -implicitDefEqProofs (maxSteps:=9^9) (disch:=omega) only[go_sem,simprocAttr]
 refine hof x2 _ (pota _ _) _ fun s4 y2 a7=>?_
 rw[pwa2]
 have b2:0≤y2∧y2≤wide:=by omega
 have hlp:(pw σ r s4).length=σ.length:=by unfold pw;exact length_hset
 have g1:hget (pw σ r s4++[.cells [.int .i64 0,.int .i64 0]]) σ.length=some (.cells [.int .i64 0,.int .i64 0]):=by rw[← hlp];exact hget_at0
 have g2:∀o,hset (pw σ r s4++[.cells [.int .i64 0,.int .i64 0]]) σ.length o=pw σ r s4++[o]:=fun o=>by rw[← hlp];exact hset_at0
 have g3:∀o,hget (pw σ r s4++[o]) σ.length=some o:=fun o=>by rw[← hlp];exact hget_at0
 simp -implicitDefEqProofs (maxSteps:=9^9) (disch:=omega) only[go_sem,simprocAttr,g1,g2,g3]
 refine h s4 (if least<n-y1 then n-y1 else least) (if n+y2<most then n+y2 else most) ?_ ?_ ?_ ?_ ?_ ?_ _<;> (split<;> omega)
def truAV(rates by_:List Int):AV:= .agg [ints1 rates,ints1 by_]
theorem hlength_pw{σ:List AObj}{r:Nat}{s:Int}:(pw σ r s).length=σ.length:=length_hset
theorem hhget_pw0{σ l:List AObj}{r:Nat}{s:Int}:hget (pw σ r s++l) σ.length=l[0]? :=by rw[← hlength_pw (σ:=σ) (r:=r) (s:=s)];exact hget_at0
theorem hhget_pw{σ l:List AObj}{r k:Nat}{s:Int}:hget (pw σ r s++l) (σ.length+k)=l[k]? :=by rw[← hlength_pw (σ:=σ) (r:=r) (s:=s)];exact hget_at
theorem hhset_pw0{σ l:List AObj}{r:Nat}{s:Int}{o:AObj}:hset (pw σ r s++l) σ.length o=pw σ r s++l.set 0 o:=by rw[← hlength_pw (σ:=σ) (r:=r) (s:=s)];exact hset_at0
theorem hhset_pw{σ l:List AObj}{r k:Nat}{s:Int}{o:AObj}:hset (pw σ r s++l) (σ.length+k) o=pw σ r s++l.set k o:=by rw[← hlength_pw (σ:=σ) (r:=r) (s:=s)];exact hset_at
theorem hpw_app{σ l:List AObj}{r:Nat}{s:Int}(hr:r<σ.length):pw (σ++l) r s=pw σ r s++l:=by unfold pw hset;rw[List.set_append_left _ _ hr]
theorem hpw_pwa{σ l:List AObj}{r:Nat}{s t:Int}(hr:r<σ.length):pw (pw σ r s++l) r t=pw σ r t++l:=by
 rw[hpw_app (by rw[hlength_pw];exact hr),pw_pw]
theorem PotAt.app1{σ l:List AObj}{r:Nat}(h:PotAt σ r):PotAt (σ++l) r:=by obtain⟨s,hg⟩:=h;exact⟨s,by rw[hget_app (hget_lt hg)];exact hg⟩
theorem PotAt.lt1{σ:List AObj}{r:Nat}(h:PotAt σ r):r<σ.length:=by obtain⟨s,hg⟩:=h;exact hget_lt hg
structure TrueT(r:Ros)(rates:List Int)(w:Int)(x:Tn)(by_:Int):Prop where
 by_in:0≤by_∧by_<r.hands
 day:0≤x.day∧x.day≤12
 hand:x.hand=by_∨x.hand= -1
 due:500≤x.due∧x.due≤2000
 ear:∃t lo hi rds,(-r.skill≤t- (x.due+offX r rates by_ x.day)∧t- (x.due+offX r rates by_ x.day)≤r.skill)∧(1≤lo∧lo≤t∧t≤hi∧hi≤100000∧hi-lo≤2*w)∧(rds=[]∨rds=[⟨1,0,0,20,⟨t/5,t/5⟩⟩])∧x.ear=⟨0,[⟨lo,hi⟩],rds⟩
theorem TrueT.congr{r r2:Ros}{rates:List Int}{w:Int}{x:Tn}{b:Int}(h:TrueT r rates w x b)(h1:r2.hands=r.hands)(h2:r2.skill=r.skill)(h3:r2.sets=r.sets):TrueT r2 rates w x b:=by
 obtain⟨t,lo,hi,rds,g1,g2,g3,g4⟩:=h.ear
 refine⟨by rw[h1];exact h.by_in,h.day,h.hand,h.due,t,lo,hi,rds,?_,g2,g3,g4⟩
 have:offX r2 rates b x.day=offX r rates b x.day:=by unfold offX;rw[h3]
 rw[this,h2];exact g1
structure TrueR(H E w:Int)(r:Ros)(rates by_:List Int):Prop where
 hands:1≤r.hands∧r.hands≤H
 skill:0≤r.skill∧r.skill≤3
 mn: -3≤r.mn∧r.mn≤1
 mx:1≤r.mx∧r.mx≤3
 rl:(rates.length:Int)=r.hands
 rate:∀n∈rates,n=0∨(r.mn≤n∧n≤r.mx)
 sl:r.sets.length≤2
 set:∀s∈r.sets,(0≤s.hand∧s.hand<r.hands)∧0≤s.day∧s.day≤9
 el:(r.ents.length:Int)≤E
 bl:by_.length=r.ents.length
 ent:∀i (h:i<r.ents.length) (h':i<by_.length),TrueT r rates w r.ents[i] by_[i]
def rosC(h s a b:Int)(ss es:AV):AObj:= .cells [.int .i64 h,.int .i64 s,.int .i64 a,.int .i64 b,ss,es]
end Go.Proofs
