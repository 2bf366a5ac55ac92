/- Texts of a proof: lemmas. -/
import Derived.Test.YtgbdndlmdklefaaGreatGK37
import Derived.Test.YtgbdndlmdklefaaGreatGK36
set_option linter.unusedSimpArgs false
set_option linter.unusedVariables false
set_option maxRecDepth 100000
set_option maxHeartbeats 40000000
namespace Go.Proofs
open Go Go.Mu Go.Ins
theorem Ros.Good.one{r:Ros}(h:r.Good){x:Tn}(hx:x∈r.ents):∃sl lo hi rds,x.ear=⟨sl,[⟨lo,hi⟩],rds⟩∧ck ⟨sl,[⟨lo,hi⟩],rds⟩= 0∧oneV sl lo hi rds≠[]∧chkE x r.hands=((oneV sl lo hi rds).map (· - x.due),0):=by
 obtain⟨h1,h2,h3,h4,h5,h6⟩:=h.ent x hx
 obtain⟨_,hw,hn,_⟩:=askL_ok1 h6
 have hl:x.ear.tones.length=1:=by
  unfold oneE at hw
  split at hw
  ·omega
  ·cases hw
 obtain⟨sl,ts,rds⟩:∃sl ts rds,x.ear=⟨sl,ts,rds⟩:=⟨_,_,_,rfl⟩
 obtain⟨rds,he⟩:=rds
 rw[he] at hl hn h4
 match ts,hl with
 | [⟨lo,hi⟩],_=>
  have hn2:oneV sl lo hi rds≠[]:=by rw[truths_one] at hn;simpa using hn
  exact⟨sl,lo,hi,rds,he,h4,hn2,chkE_oneV h1 (by omega) h3 he (by rw[he];exact h4) hn2⟩
theorem Ros.Good.ne{r:Ros}(h:r.Good):∀l∈entsL r,l≠[]:=by
 intro l hl
 obtain⟨x,hx,rfl⟩:=List.mem_map.1 hl
 obtain⟨sl,lo,hi,rds,_,_,h3,h4⟩:=h.one hx
 rw[h4];simpa using h3
def devsL(r:Ros):List Rng:=if rosE r=0 then(entsL r).map devR else[]
theorem idx_tg{l:List Int}{i:Int}(h:0≤i∧i<l.length):idx (l.map (AV.int .i64)) i=some (.int .i64 (tg l i)):=by
 obtain⟨n,rfl⟩:=Int.eq_ofNat_of_zero_le h.1
 have hn:n<l.length:=by omega
 rw[idx_nat hn]
 simp[tg,List.getD_eq_getElem?_getD,List.getElem?_eq_getElem hn]
theorem deviations_p(r:Ros)(hf:r.Fit):PureV SBes 40 [r.av] (.tup [.list .no 2 ((devsL r).map Rng.av),.int .i64 (rosE r)]):=by
 refine PvE (Tryz.envOK (S:=SBes) 39 Tryz.ord40 fs0 fs0_ok) (.tup (by simp only[List.mem_cons,List.not_mem_nil,or_false,forall_eq_or_imp,forall_eq];exact⟨.map fun x _=>Rng.plain x,.int⟩)) Tryz.kp40 Tryz.func40 rfl ?_
 intro σ
 simp only[Ros.av]
 by_cases hh:headE r=0
 ·by_cases he:entsE r=0
  ·have hro:rosE r=0:=by unfold rosE;rw[if_neg (fun c=>c hh)];exact he
   have hg:=Ros.good_of hh he
   have hne:=hg.ne
   have hin:=hg.devs
   have hel:(entsL r).length≤1000000:=by rw[entsL_len];exact hf.ents
   rw[show devsL r=(entsL r).map devR from if_pos hro,hro]
   simp -implicitDefEqProofs (maxSteps:=9^9) (disch:=omega) only[go_sem,simprocAttr]
   refine rosterOf_ok r hh (by have:=hf.sets;omega) (hf.ok hh) _ _ ?_
   rw[he]
   generalize entsL r=L at hne hin hel⊢
   simp -implicitDefEqProofs (maxSteps:=9^9) (disch:=omega) only[go_sem,simprocAttr,Ros.wav]
   refine ARun.ghost 6 2 (sz0:=0) rfl (by simp[lookA]) ?_
   simp only[ins,↓reduceIte,List.append_assoc,List.cons_append,List.nil_append,List.length_append,List.length_cons,List.length_nil,Nat.zero_add,Nat.reduceEqDiff]
   refine ARun.forS (Tryz.envOK (S:=SBes) 39 Tryz.ord40 fs0 fs0_ok) L.length (fun _=>True) (fun i=>[(6,.list (.own (σ.length+2)) 2 (((L.take i).map devR).map Rng.av)),(20,.int .i64 i)]) (fun i j=>σ++(.cells [.int .i64 r.hands,.int .i64 r.skill,.int .i64 r.mn,.int .i64 r.mx,.list .no 2 (r.sets.map Sg.av),.list .no 6 (r.ents.map Tn.av)]:: .cells [.int .i64 r.hands,.int .i64 r.skill,.int .i64 r.mn,.int .i64 r.mx,.list .no 2 (r.sets.map Sg.av),.list .no 6 (r.ents.map Tn.av),.list .no 1 (L.map ints1)]:: .tail i 2::j)) [] (by kernel_rfl) (by simp) (by simp[upd,ins,subF,lookA]) trivial ?_ ?_
   ·intro i j hi _ ih
    have hidx:idx (L.map ints1) (i:Int)=some (.list .no 1 (L[i].map (.int .i64))):=idx_nat (f:=ints1) hi
    have hml:=List.getElem_mem hi
    have hl0:0<L[i].length:=List.length_pos_iff.2 (hne _ hml)
    have hl1:=(hin _ hml).2
    have hi0:idx (L[i].map (AV.int .i64)) 0=some (.int .i64 (tg L[i] 0)):=idx_tg ⟨by omega,by omega⟩
    have hi1:idx (L[i].map (AV.int .i64)) ((L[i].length:Int)-1)=some (.int .i64 (tg L[i] ((L[i].length:Int)-1))):=idx_tg ⟨by omega,by omega⟩
    have hdr:(devR L[i]).av= .agg [.int .i64 (tg L[i] 0),.int .i64 (tg L[i] ((L[i].length:Int)-1))]:=rfl
    have hst:(L.take (i+1)).map devR=(L.take i).map devR++[devR L[i]]:=by rw[List.take_succ_eq_append_getElem hi,List.map_append];rfl
    rw[hst] at ih
    have hwl:IntKind.i64.wrap ((L[i].length:Int)-1)=(L[i].length:Int)-1:=wrap64 (by omega) (by omega)
    have hbl:((L.take i).map devR).length=i:=by rw[List.length_map,List.length_take];omega
    have hwi:IntKind.i64.wrap ((i:Int)+1)=((i+1:Nat):Int):=by rw[wrap64 (by omega) (by omega)];rfl
    have hcl:∀x:Rng,x.av.cells.length=2:=fun _=>rfl
    have hfl:∀x:Rng,x.av.flat=true:=fun _=>rfl
    generalize L[i]=l at *
    generalize (L.take i).map devR=B at *
    simp -implicitDefEqProofs (maxSteps:=9^9) (disch:=omega) only[go_sem,simprocAttr,hidx,hi0,hi1,hwl,hwi,hbl,hcl,hfl]
    exact(ih trivial j).castS (by simp[hdr]) (by simp[upd,ins,subF,lookA,hdr])
   ·intro j _
    rw[List.take_length]
    simp -implicitDefEqProofs (maxSteps:=9^9) (disch:=omega) only[go_sem,simprocAttr]
  ·have hr:rosE r=entsE r:=by unfold rosE;rw[if_neg (fun c=>c hh)]
   have hd:devsL r=[]:=by unfold devsL;rw[if_neg (by rw[hr];exact he)]
   rw[hd,hr]
   simp -implicitDefEqProofs (maxSteps:=9^9) (disch:=omega) only[go_sem,simprocAttr]
   refine rosterOf_ok r hh (by have:=hf.sets;omega) (hf.ok hh) _ _ ?_
   generalize entsE r=q at he
   simp -implicitDefEqProofs (maxSteps:=9^9) (disch:=omega) only[go_sem,simprocAttr,Ros.wav,he]
 ·have hr:rosE r=headE r:=by unfold rosE;rw[if_pos hh]
  have hd:devsL r=[]:=by unfold devsL;rw[if_neg (by rw[hr];exact hh)]
  rw[hd,hr]
  simp -implicitDefEqProofs (maxSteps:=9^9) (disch:=omega) only[go_sem,simprocAttr]
  refine rosterOf_err r hh (by have:=hf.sets;omega) (by have:=hf.ents;omega) _ _ ?_
  generalize headE r=q at hh
  simp -implicitDefEqProofs (maxSteps:=9^9) (disch:=omega) only[go_sem,simprocAttr,Ros.wav,hh]
end Go.Proofs
namespace Go.Proofs
open Go Go.Mu Go.Ins
variable {S:MC Tryz.prog}
def rTun(r:Ros)(t:Tn)(x:Rng)(h n:Int):Bool:=decide (t.hand<0∨t.hand=h)&&decide (x.lo-r.skill≤n*(t.day-fromL r.sets h t.day)∧n*(t.day-fromL r.sets h t.day)≤x.hi+r.skill)
end Go.Proofs
namespace Go.Proofs
open Go Go.Mu Go.Ins
theorem any_conv{V:List Int}(hV:V≠[])(ha:V.Pairwise (· < ·))(hc:∀y,tg V 0≤y→y≤tg V ((V.length:Int)-1)→y∈V){due o sk:Int}(hs:0≤sk) :
  ((V.map (· - due)).any fun d=>decide (-sk≤d-o∧d-o≤sk))=decide ((devR (V.map (· - due))).lo-sk≤o∧o≤(devR (V.map (· - due))).hi+sk):=by
 rw[devR_sub hV]
 have hle:=(asc_tg ha (tgl_mem hV)).1
 rw[Bool.eq_iff_iff,List.any_eq_true,decide_eq_true_eq]
 constructor
 ·rintro⟨d,hd,h⟩
  obtain⟨v,hv,rfl⟩:=List.mem_map.1 hd
  have:=asc_tg ha hv
  have h:=of_decide_eq_true h
  simp only
  omega
 ·intro h
  simp only at h
  obtain⟨y,hy1,hy2,hy3⟩:∃y,tg V 0≤y∧y≤tg V ((V.length:Int)-1)∧(-sk≤y-due-o∧y-due-o≤sk):=by
   by_cases c1:o<tg V 0-due
   ·exact⟨tg V 0,by omega,by omega,by omega⟩
   ·by_cases c2:tg V ((V.length:Int)-1)-due<o
    ·exact⟨tg V ((V.length:Int)-1),by omega,by omega,by omega⟩
    ·exact⟨o+due,by omega,by omega,by omega⟩
  exact⟨y-due,List.mem_map.2 ⟨y,hc y hy1 hy2,rfl⟩,decide_eq_true hy3⟩
theorem rTun_byB{r:Ros}(hg:r.Good){i:Nat}(hi:i<r.ents.length)(x:List Int)(h:Nat):byB r (entsL r) x i h=rTun r (r.ents.getD i default) (((entsL r).map devR).getD i default) h (tg x h):=by
 have hge:r.ents.getD i default=r.ents[i]:=by simp[List.getD,List.getElem?_eq_getElem hi]
 have hed:(entsL r).getD i []=(chkE r.ents[i] r.hands).1:=by
  simp[entsL,List.getD_eq_getElem?_getD,List.getElem?_eq_getElem hi]
 have hdd:((entsL r).map devR).getD i default=devR (chkE r.ents[i] r.hands).1:=by
  simp[entsL,List.getD_eq_getElem?_getD,List.getElem?_eq_getElem hi]
 unfold byB rTun
 rw[hge,hed,hdd]
 obtain⟨sl,lo,hi',rds,h1,h2,h3,h4⟩:=hg.one (List.getElem_mem hi)
 rw[h4]
 have hsk:=hg.skill
 by_cases c:0≤r.ents[i].hand∧r.ents[i].hand≠(h:Int)
 ·rw[if_pos c,decide_eq_false (by omega),Bool.false_and]
 ·rw[if_neg c,decide_eq_true (show r.ents[i].hand<0∨r.ents[i].hand=(h:Int) by omega),Bool.true_and]
  exact any_conv h3 (oneV_asc sl lo hi' rds) (fun y g1 g2=>oneV_conv h2 h3 ⟨g1,g2⟩) hsk.1
/-! TopSteady, plain: what a roster says of hands that do not drift. -/
theorem chk_ok{x:Tn}{h:Int}(h1:0≤x.day∧x.day≤60)(h2: -1≤x.hand∧x.hand<h)(h3:1≤x.due∧x.due≤100000)(h4:ck x.ear=0)(h5:x.ear.tones.length≤1)(h6:(askL x.ear (oneE x.ear 0)).2=0):(chkE x h).2=0:=by
 unfold chkE
 rw[if_neg (by omega),if_neg (by omega),if_neg (by omega),if_neg (fun c=>c h4),if_neg (by omega)]
 unfold valuesL
 rw[if_pos h6]
structure SteR(r:Ros):Prop where
 fit:r.Fit
 head:headE r=0
 ent:entsE r=0
theorem SteR.good{r:Ros}(h:SteR r):r.Good:=Ros.good_of h.head h.ent
theorem SteR.ro{r:Ros}(h:SteR r):rosE r=0:=by unfold rosE;rw[if_neg (fun c=>c h.head)];exact h.ent
theorem SteR.odd{r:Ros}(h:SteR r){i:Nat}(hi:i<r.ents.length){d:Int}(hd:1≤(r.ents.getD i default).due+d∧(r.ents.getD i default).due+d≤100000):SteR (oddX r i d):=by
 have hg:=h.good
 have he:r.ents.getD i default=r.ents[i]:=by simp[List.getD,List.getElem?_eq_getElem hi]
 obtain⟨g1,g2,g3,g4,g5,g6⟩:=hg.ent _ (List.getElem_mem hi)
 have hel:(oddX r i d).ents.length=r.ents.length:=by simp[oddX]
 have hz:(chkE (dueX r.ents[i] d) r.hands).2=0:=chk_ok g1 g2 (by rw[he] at hd;exact hd) g4 g5 g6
 have hmem:∀y∈(oddX r i d).ents,y∈r.ents∨y=dueX r.ents[i] d:=fun y hy=>by
  have:=List.mem_or_eq_of_mem_set (show y∈r.ents.set i (dueX (r.ents.getD i default) d) from hy)
  rw[he] at this;exact this
 refine⟨⟨h.fit.sets,by rw[hel];exact h.fit.ents,fun y hy=>?_⟩,?_,?_⟩
 ·rcases hmem y hy with g | rfl
  ·exact h.fit.ear y g
  ·exact h.fit.ear r.ents[i] (List.getElem_mem hi)
 ·have:headE (oddX r i d)=headE r:=by unfold headE;rw[hel];rfl
  rw[this];exact h.head
 ·unfold entsE
  refine firstNZ_zero fun e he2=>?_
  obtain⟨y,hy,rfl⟩:=List.mem_map.1 he2
  rcases hmem y hy with g | rfl
  ·exact firstNZ_all h.ent _ (List.mem_map.2 ⟨y,g,rfl⟩)
  ·exact hz
theorem allR_none{r:Ros}:∀(m:Nat) (x:List Int) (a:Nat),allR r 0 m x a=[x]
 | 0,x,a=>rfl
 | m+1,x,a=>by
  unfold allR
  rw[if_neg (by simp)]
  exact allR_none m x _
theorem still_iff{r:Ros}(hg:r.Good):htruthsR r (entsL r) 0≠[]↔∀i,i<r.ents.length→(((entsL r).map devR).getD i default).lo-r.skill≤0∧0≤(((entsL r).map devR).getD i default).hi+r.skill:=by
 have hh:=hg.hands
 have e:htruthsR r (entsL r) 0≠[]↔isB r (entsL r) [0,0,0,0]=true:=by
  unfold htruthsR
  rw[allR_none,List.filter_cons,List.filter_nil]
  split<;> simp[*]
 rw[e]
 unfold isB
 rw[List.all_eq_true]
 have ht:∀h:Nat,h<r.hands.toNat→tg [0,0,0,0] (h:Int)=0:=fun h hh2=>by
  rcases(by omega:h=0∨h=1∨h=2∨h=3) with rfl | rfl | rfl | rfl<;> rfl
 constructor
 ·intro h i hi
  have:=h i (List.mem_range.2 hi)
  obtain⟨k,hk,hb⟩:=List.any_eq_true.1 this
  have hk:=List.mem_range.1 hk
  rw[rTun_byB hg hi] at hb
  unfold rTun at hb
  rw[ht k hk,Bool.and_eq_true,decide_eq_true_eq,decide_eq_true_eq,Int.zero_mul] at hb
  exact hb.2
 ·intro h i hi
  have hi:=List.mem_range.1 hi
  have hd:=h i hi
  have he:=(hg.ent _ (List.getElem_mem hi)).2.1
  have hge:r.ents.getD i default=r.ents[i]:=by simp[List.getD,List.getElem?_eq_getElem hi]
  have key:∀k:Nat,k<r.hands.toNat→(r.ents[i].hand<0∨r.ents[i].hand=k)→((List.range r.hands.toNat).any fun h=>byB r (entsL r) [0,0,0,0] i h)=true:=fun k hk hb=>by
   refine List.any_eq_true.2 ⟨k,List.mem_range.2 hk,?_⟩
   rw[rTun_byB hg hi]
   unfold rTun
   rw[ht k hk,Bool.and_eq_true,decide_eq_true_eq,decide_eq_true_eq,Int.zero_mul,hge]
   exact⟨hb,hd⟩
  by_cases c:r.ents[i].hand<0
  ·exact key 0 (by omega) (.inl c)
  ·exact key r.ents[i].hand.toNat (by omega) (.inr (by omega))
theorem steady_few{r:Ros}(hg:r.Good)(hro:rosE r=0):(htruthsR r (entsL r) 0≠[]→fewL r=[[]]∧knownE r []=0)∧(htruthsR r (entsL r) 0=[]→∀l∈fewL r,l≠[])∧(knownE r []=0∨knownE r []=11):=by
 have hh:=hg.hands
 have h0:hdue r 0=if htruthsR r (entsL r) 0≠[] then[[]] else[]:=by
  unfold hdue
  rw[show hcomb r.hands.toNat 0 0=[[]] from rfl,List.filter_cons,List.filter_nil,show setN []=0 from rfl]
  simp only[decide_eq_true_eq]
 by_cases hz:htruthsR r (entsL r) 0=[]
 ·rw[if_neg (fun c=>c hz)] at h0
  rcases explR_spec r (entsL r) with⟨e,g⟩ | ⟨m,g1,g2,g3,g4⟩
  ·obtain⟨k1,k2⟩:=fewL_none hg hro fun m hm=>(found_due hg.toHead hm).1 (g m hm)
   exact⟨fun c=>absurd hz c,fun _ l hl=>(by rw[k2] at hl;cases hl),.inr k1⟩
  ·have h1:hdue r m≠[]:=fun c=>g3 ((found_due hg.toHead g1).2 c)
   obtain⟨k1,k2⟩:=fewL_some hg hro g1 h1 fun j hj=>(found_due hg.toHead (by omega)).1 (g4 j hj)
   refine⟨fun c=>absurd hz c,fun _ l hl=>?_,.inl k1⟩
   rw[k2] at hl
   have hlen:=(hcomb_mem (List.mem_filter.1 hl).1).1
   intro c
   subst c
   simp at hlen
   subst hlen
   exact h1 h0
 ·rw[if_pos hz] at h0
  obtain⟨k1,k2⟩:=fewL_some hg hro (m:=0) (by omega) (by rw[h0];simp) (fun j hj=>by omega)
  exact⟨fun _=>⟨by rw[k2,h0],k1⟩,fun c=>absurd c hz,.inl k1⟩
end Go.Proofs
namespace Go.Proofs
open Go Go.Mu Go.Ins
variable {S:MC Tryz.prog}
end Go.Proofs
namespace Go.Proofs
open Go Go.Mu Go.Ins
theorem _root_.Go.Mu.ACalls.of_evN{E:Env}(n:Nat)(hE:EnvOK E){f:FuncId}{fn:Func}{c:Code}{args:List AV}{σ:List AObj}{Q:AV→List AObj→Prop}(kp:Nat→Bool)(hf:E.P.funcs[f]? = some fn)(hb:fn.body=some c)(hN:fn.ntmps=E.N)(hA:args.length≤E.N)
  (hC:Callable E.P f) (hO:todoOK E [.code c]=true)
  (h:ev E none n [.code c] ⟨kp,[],number 0 args⟩ σ (retPost E fn.results.toList Q)):ACalls E.S f args σ Q:=by
 refine ACalls.of_run hE kp hf hb hN hA hC ((ev_sound hE hO h).mono fun j fr σ' ⟨h1,h2⟩=>⟨h1,?_⟩)
 cases hr:resAs E fr σ' fn.results.toList with
 | none=>rw[hr] at h2;exact h2.elim
 | some vs=>rw[hr] at h2;exact⟨vs,rfl,h2⟩
end Go.Proofs
