/- Texts of a proof: lemmas. -/
import Derived.Test.YtgbdndlmdklefaaGreatCK37
import Derived.Test.YtgbdndlmdklefaaGreatCK36
import Derived.Test.YtgbdndlmdklefaaGreatCK35
import Derived.Test.YtgbdndlmdklefaaGreatCK28
import Derived.Test.YtgbdndlmdklefaaGreatCK34
set_option linter.unusedSimpArgs false
set_option linter.unusedVariables false
set_option maxRecDepth 100000
set_option maxHeartbeats 40000000
namespace Go.Proofs
open Go Go.Mu Go.Ins
theorem spanL_spec{num:List Int→Int}{l:List (List Int)}(hl:l≠[]):(∀t∈l,(spanL num l).lo≤num t∧num t≤(spanL num l).hi)∧(∃t∈l,num t=(spanL num l).lo)∧(∃t∈l,num t=(spanL num l).hi):=by
 have key:∀(l p:List (List Int)) (y:Rng),((∀t∈p,y.lo≤num t∧num t≤y.hi)∧(∃t∈p,num t=y.lo)∧(∃t∈p,num t=y.hi))→
   ((∀t∈p++l,(l.foldl (spanS num) y).lo≤num t∧num t≤(l.foldl (spanS num) y).hi)∧(∃t∈p++l,num t=(l.foldl (spanS num) y).lo)∧(∃t∈p++l,num t=(l.foldl (spanS num) y).hi)):=by
  intro l
  induction l with
  | nil=>intro p y h;simpa using h
  | cons t l ih=>
   intro p y ⟨h1,⟨a,ha,ha2⟩,⟨b,hb,hb2⟩⟩
   have e:p++t::l=(p++[t])++l:=by simp
   rw[e]
   refine ih (p++[t]) (spanS num y t) ⟨fun u hu=>?_,?_,?_⟩
   ·rcases List.mem_append.1 hu with hu | hu
    ·have:=h1 u hu
     simp only[spanS,mn,mx];split<;> split<;> omega
    ·simp at hu;subst hu
     simp only[spanS,mn,mx];split<;> split<;> omega
   ·simp only[spanS,mn]
    split
    ·exact⟨t,by simp,rfl⟩
    ·exact⟨a,by simp[ha],ha2⟩
   ·simp only[spanS,mx]
    split
    ·exact⟨t,by simp,rfl⟩
    ·exact⟨b,by simp[hb],hb2⟩
 obtain⟨t,l,rfl⟩:∃t l',l=t::l':=by cases l with | nil=>exact absurd rfl hl | cons a b=>exact⟨a,b,rfl⟩
 have:=key l [t] (spanS num ⟨num t,num t⟩ t) ⟨fun u hu=>by simp at hu;subst hu;simp[spanS,mn,mx],⟨t,by simp,by simp[spanS,mn]⟩,⟨t,by simp,by simp[spanS,mx]⟩⟩
 simpa[spanL] using this
def oneB(sl:Int)(rds:List Rd)(v:Int):Bool:=rds.all fun r=>isR r sl [v,0,0]
def oneV(sl lo hi:Int)(rds:List Rd):List Int:=((List.range (hi-lo+1).toNat).filter fun(k:Nat)=>oneB sl rds (lo+k)).map fun(k:Nat)=>lo+(k:Int)
theorem flat_if{α:Type}(P:Nat→Bool)(f:Nat→α):∀l:List Nat,(l.flatMap fun k=>if P k then[f k] else[])=(l.filter P).map f
 | []=>rfl
 | k::l=>by
  rw[List.flatMap_cons,flat_if P f l,List.filter_cons]
  by_cases h:P k=true
  ·rw[if_pos h,if_pos h];rfl
  ·rw[if_neg h,if_neg h];rfl
theorem truths_one(sl lo hi:Int)(rds:List Rd):truthsL ⟨sl,[⟨lo,hi⟩],rds⟩=(oneV sl lo hi rds).map fun v=>[v,0,0]:=by
 rw[truthsL_one]
 unfold oneV
 rw[List.map_map]
 exact flat_if (fun(k:Nat)=>oneB sl rds (lo+k)) (fun(k:Nat)=>[lo+(k:Int),0,0]) _
theorem oneV_mem{sl lo hi:Int}{rds:List Rd}{v:Int}:v∈oneV sl lo hi rds↔(lo≤v∧v≤hi)∧oneB sl rds v=true:=by
 unfold oneV
 simp only[List.mem_map,List.mem_filter,List.mem_range]
 constructor
 ·rintro⟨k,⟨h1,h2⟩,rfl⟩;exact⟨by omega,h2⟩
 ·rintro⟨h1,h2⟩
  have e:lo+((v-lo).toNat:Int)=v:=by omega
  exact⟨(v-lo).toNat,⟨by omega,by rw[e];exact h2⟩,e⟩
theorem oneV_asc(sl lo hi:Int)(rds:List Rd):(oneV sl lo hi rds).Pairwise (· < ·):=by
 unfold oneV
 rw[List.pairwise_map]
 exact(List.pairwise_lt_range.filter _).imp fun h=>by omega
theorem oneV_firsts(sl lo hi:Int)(rds:List Rd):firstsL ((truthsL ⟨sl,[⟨lo,hi⟩],rds⟩).map fun t=>tg t 0)=oneV sl lo hi rds:=by
 rw[truths_one,List.map_map]
 have e:((fun t=>tg t 0)∘fun(v:Int)=>[v,0,0])=id:=by funext v;rfl
 rw[e,List.map_id]
 have:=firsts_self (oneV sl lo hi rds) [] (by rw[List.nil_append];exact(oneV_asc sl lo hi rds).imp fun h=>by omega)
 simpa[firstsL] using this
theorem oneV_nil{sl lo hi:Int}{rds:List Rd}(h:oneV sl lo hi rds≠[]):truthsL ⟨sl,[⟨lo,hi⟩],rds⟩≠[]:=by
 rw[truths_one];simpa using h
theorem chkE_oneV{x:Tn}{h sl lo hi:Int}{rds:List Rd}(h1:0≤x.day∧x.day≤60)(h2: -1≤x.hand∧x.hand≤h-1)(h3:1≤x.due∧x.due≤100000)(he:x.ear=⟨sl,[⟨lo,hi⟩],rds⟩)(hk:ck x.ear=0)(hn:oneV sl lo hi rds≠[]) :
  chkE x h=((oneV sl lo hi rds).map (· - x.due),0):=by
 rw[chkE_one h1 h2 h3 hk (by rw[he];rfl) (by rw[he];exact oneV_nil hn),he,oneV_firsts]
def devR(l:List Int):Rng:=⟨tg l 0,tg l ((l.length:Int)-1)⟩
theorem asc_tg{l:List Int}(h:l.Pairwise (· < ·)){v:Int}(hv:v∈l):tg l 0≤v∧v≤tg l ((l.length:Int)-1):=by
 obtain⟨i,hi,rfl⟩:=List.mem_iff_getElem.1 hv
 have e0:tg l 0=l[0]'(by omega):=by unfold tg;rw[show Int.toNat 0=0 from rfl,List.getD_eq_getElem?_getD,List.getElem?_eq_getElem (by omega)];rfl
 have e1:tg l ((l.length:Int)-1)=l[l.length-1]'(by omega):=by
  unfold tg;rw[show((l.length:Int)-1).toNat=l.length-1 by omega,List.getD_eq_getElem?_getD,List.getElem?_eq_getElem (by omega)];rfl
 rw[e0,e1]
 have hp:=List.pairwise_iff_getElem.1 h
 constructor
 ·by_cases c:i=0
  ·subst c;exact Int.le_refl _
  ·exact Int.le_of_lt (hp 0 i (by omega) hi (by omega))
 ·by_cases c:i=l.length-1
  ·subst c;exact Int.le_refl _
  ·exact Int.le_of_lt (hp i (l.length-1) hi (by omega) (by omega))
theorem tg0_mem{l:List Int}(h:l≠[]):tg l 0∈l:=by
 cases l with
 | nil=>exact absurd rfl h
 | cons a l=>exact List.mem_cons_self
theorem tgl_mem{l:List Int}(h:l≠[]):tg l ((l.length:Int)-1)∈l:=by
 have hl:0<l.length:=List.length_pos_iff.2 h
 unfold tg
 rw[show((l.length:Int)-1).toNat=l.length-1 by omega,List.getD_eq_getElem?_getD,List.getElem?_eq_getElem (by omega)]
 exact List.getElem_mem _
theorem tg_sub{l:List Int}{d i:Int}(h:i.toNat<l.length):tg (l.map (· - d)) i=tg l i-d:=by
 unfold tg
 simp[List.getD_eq_getElem?_getD,List.getElem?_eq_getElem h]
theorem devR_sub{l:List Int}{d:Int}(h:l≠[]):devR (l.map (· - d))=⟨tg l 0-d,tg l ((l.length:Int)-1)-d⟩:=by
 have hl:0<l.length:=List.length_pos_iff.2 h
 unfold devR
 rw[List.length_map,tg_sub (by simpa using hl),tg_sub (by omega)]
theorem span_oneV{sl lo hi:Int}{rds:List Rd}(h:oneV sl lo hi rds≠[]):spanL (fun t=>tg t ((0:Nat):Int)) (truthsL ⟨sl,[⟨lo,hi⟩],rds⟩)=devR (oneV sl lo hi rds):=by
 rw[truths_one]
 have hA:=oneV_asc sl lo hi rds
 generalize oneV sl lo hi rds=V at h hA
 obtain⟨h1,⟨a,ha,ha2⟩,⟨b,hb,hb2⟩⟩:=spanL_spec (num:=fun t=>tg t ((0:Nat):Int)) (l:=V.map fun v=>[v,0,0]) (by simpa using h)
 obtain⟨v,hv,rfl⟩:=List.mem_map.1 ha
 obtain⟨w,hw,rfl⟩:=List.mem_map.1 hb
 have g1:=h1 _ (List.mem_map.2 ⟨_,tg0_mem h,rfl⟩)
 have g2:=h1 _ (List.mem_map.2 ⟨_,tgl_mem h,rfl⟩)
 have k1:=asc_tg hA hv
 have k2:=asc_tg hA hw
 have t0:∀v:Int,tg [v,0,0] ((0:Nat):Int)=v:=fun v=>rfl
 simp only[t0] at ha2 hb2 g1 g2
 generalize spanL _ _=sp at *
 obtain⟨s1,s2⟩:=sp
 simp only at *
 unfold devR
 rw[show s1=tg V 0 by omega,show s2=tg V ((V.length:Int)-1) by omega]
theorem tones_one{sl lo hi:Int}{rds:List Rd}(hk:ck ⟨sl,[⟨lo,hi⟩],rds⟩= 0)(h:oneV sl lo hi rds≠[]):tonesL ⟨sl,[⟨lo,hi⟩],rds⟩=([devR (oneV sl lo hi rds)],0):=by
 have e:knownL ⟨sl,[⟨lo,hi⟩],rds⟩=(truthsL ⟨sl,[⟨lo,hi⟩],rds⟩,0):=by
  unfold knownL;rw[if_neg (by simp[hk]),if_neg (oneV_nil h)]
 unfold tonesL
 rw[e]
 show(([spanL (fun t=>tg t ((0:Nat):Int)) (truthsL ⟨sl,[⟨lo,hi⟩],rds⟩)]:List Rng),(0:Int))=_
 rw[span_oneV h]
theorem Ros.Good.one{r:Ros}(h:r.Good){x:Tn}(hx:x∈r.ents):∃sl lo hi rds,x.ear=⟨sl,[⟨lo,hi⟩],rds⟩∧ck ⟨sl,[⟨lo,hi⟩],rds⟩= 0∧oneV sl lo hi rds≠[]∧chkE x r.hands=((oneV sl lo hi rds).map (· - x.due),0):=by
 obtain⟨h1,h2,h3,h4,h5,h6⟩:=h.ent x hx
 obtain⟨_,hw,hn,_⟩:=askL_ok1 h6
 have hl:x.ear.tones.length=1:=by
  unfold oneE at hw
  split at hw
  ·omega
  ·cases hw
 obtain⟨sl,ts,rds⟩:∃sl ts rds,x.ear=⟨sl,ts,rds⟩:=⟨_,_,_,rfl⟩
 obtain⟨rds,he⟩:=rds
 rw[he] at hl hn h4
 match ts,hl with
 | [⟨lo,hi⟩],_=>
  have hn2:oneV sl lo hi rds≠[]:=by rw[truths_one] at hn;simpa using hn
  exact⟨sl,lo,hi,rds,he,h4,hn2,chkE_oneV h1 (by omega) h3 he (by rw[he];exact h4) hn2⟩
theorem Ros.Good.ne{r:Ros}(h:r.Good):∀l∈entsL r,l≠[]:=by
 intro l hl
 obtain⟨x,hx,rfl⟩:=List.mem_map.1 hl
 obtain⟨sl,lo,hi,rds,_,_,h3,h4⟩:=h.one hx
 rw[h4];simpa using h3
def devsL(r:Ros):List Rng:=if rosE r=0 then(entsL r).map devR else[]
theorem idx_tg{l:List Int}{i:Int}(h:0≤i∧i<l.length):idx (l.map (AV.int .i64)) i=some (.int .i64 (tg l i)):=by
 obtain⟨n,rfl⟩:=Int.eq_ofNat_of_zero_le h.1
 have hn:n<l.length:=by omega
 rw[idx_nat hn]
 simp[tg,List.getD_eq_getElem?_getD,List.getElem?_eq_getElem hn]
theorem deviations_p(r:Ros)(hf:r.Fit):PureV SBes 40 [r.av] (.tup [.list .no 2 ((devsL r).map Rng.av),.int .i64 (rosE r)]):=by
 refine PvE (Tryz.envOK (S:=SBes) 39 Tryz.ord40 fs0 fs0_ok) (.tup (by simp only[List.mem_cons,List.not_mem_nil,or_false,forall_eq_or_imp,forall_eq];exact⟨.map fun x _=>Rng.plain x,.int⟩)) Tryz.kp40 Tryz.func40 rfl ?_
 intro σ
 simp only[Ros.av]
 by_cases hh:headE r=0
 ·by_cases he:entsE r=0
  ·have hro:rosE r=0:=by unfold rosE;rw[if_neg (fun c=>c hh)];exact he
   have hg:=Ros.good_of hh he
   have hne:=hg.ne
   have hin:=hg.devs
   have hel:(entsL r).length≤1000000:=by rw[entsL_len];exact hf.ents
   rw[show devsL r=(entsL r).map devR from if_pos hro,hro]
   simp -implicitDefEqProofs (maxSteps:=9^9) (disch:=omega) only[go_sem,simprocAttr]
   refine rosterOf_ok r hh (by have:=hf.sets;omega) (hf.ok hh) _ _ ?_
   rw[he]
   generalize entsL r=L at hne hin hel⊢
   simp -implicitDefEqProofs (maxSteps:=9^9) (disch:=omega) only[go_sem,simprocAttr,Ros.wav]
   refine ARun.ghost 6 2 (sz0:=0) rfl (by simp[lookA]) ?_
   simp only[ins,↓reduceIte,List.append_assoc,List.cons_append,List.nil_append,List.length_append,List.length_cons,List.length_nil,Nat.zero_add,Nat.reduceEqDiff]
   refine ARun.forS (Tryz.envOK (S:=SBes) 39 Tryz.ord40 fs0 fs0_ok) L.length (fun _=>True) (fun i=>[(6,.list (.own (σ.length+2)) 2 (((L.take i).map devR).map Rng.av)),(20,.int .i64 i)]) (fun i j=>σ++(.cells [.int .i64 r.hands,.int .i64 r.skill,.int .i64 r.mn,.int .i64 r.mx,.list .no 2 (r.sets.map Sg.av),.list .no 6 (r.ents.map Tn.av)]:: .cells [.int .i64 r.hands,.int .i64 r.skill,.int .i64 r.mn,.int .i64 r.mx,.list .no 2 (r.sets.map Sg.av),.list .no 6 (r.ents.map Tn.av),.list .no 1 (L.map ints1)]:: .tail i 2::j)) [] (by kernel_rfl) (by simp) (by simp[upd,ins,subF,lookA]) trivial ?_ ?_
   ·intro i j hi _ ih
    have hidx:idx (L.map ints1) (i:Int)=some (.list .no 1 (L[i].map (.int .i64))):=idx_nat (f:=ints1) hi
    have hml:=List.getElem_mem hi
    have hl0:0<L[i].length:=List.length_pos_iff.2 (hne _ hml)
    have hl1:=(hin _ hml).2
    have hi0:idx (L[i].map (AV.int .i64)) 0=some (.int .i64 (tg L[i] 0)):=idx_tg ⟨by omega,by omega⟩
    have hi1:idx (L[i].map (AV.int .i64)) ((L[i].length:Int)-1)=some (.int .i64 (tg L[i] ((L[i].length:Int)-1))):=idx_tg ⟨by omega,by omega⟩
    have hdr:(devR L[i]).av= .agg [.int .i64 (tg L[i] 0),.int .i64 (tg L[i] ((L[i].length:Int)-1))]:=rfl
    have hst:(L.take (i+1)).map devR=(L.take i).map devR++[devR L[i]]:=by rw[List.take_succ_eq_append_getElem hi,List.map_append];rfl
    rw[hst] at ih
    have hwl:IntKind.i64.wrap ((L[i].length:Int)-1)=(L[i].length:Int)-1:=wrap64 (by omega) (by omega)
    have hbl:((L.take i).map devR).length=i:=by rw[List.length_map,List.length_take];omega
    have hwi:IntKind.i64.wrap ((i:Int)+1)=((i+1:Nat):Int):=by rw[wrap64 (by omega) (by omega)];rfl
    have hcl:∀x:Rng,x.av.cells.length=2:=fun _=>rfl
    have hfl:∀x:Rng,x.av.flat=true:=fun _=>rfl
    generalize L[i]=l at *
    generalize (L.take i).map devR=B at *
    simp -implicitDefEqProofs (maxSteps:=9^9) (disch:=omega) only[go_sem,simprocAttr,hidx,hi0,hi1,hwl,hwi,hbl,hcl,hfl]
    exact(ih trivial j).castS (by simp[hdr]) (by simp[upd,ins,subF,lookA,hdr])
   ·intro j _
    rw[List.take_length]
    simp -implicitDefEqProofs (maxSteps:=9^9) (disch:=omega) only[go_sem,simprocAttr]
  ·have hr:rosE r=entsE r:=by unfold rosE;rw[if_neg (fun c=>c hh)]
   have hd:devsL r=[]:=by unfold devsL;rw[if_neg (by rw[hr];exact he)]
   rw[hd,hr]
   simp -implicitDefEqProofs (maxSteps:=9^9) (disch:=omega) only[go_sem,simprocAttr]
   refine rosterOf_ok r hh (by have:=hf.sets;omega) (hf.ok hh) _ _ ?_
   generalize entsE r=q at he
   simp -implicitDefEqProofs (maxSteps:=9^9) (disch:=omega) only[go_sem,simprocAttr,Ros.wav,he]
 ·have hr:rosE r=headE r:=by unfold rosE;rw[if_pos hh]
  have hd:devsL r=[]:=by unfold devsL;rw[if_neg (by rw[hr];exact hh)]
  rw[hd,hr]
  simp -implicitDefEqProofs (maxSteps:=9^9) (disch:=omega) only[go_sem,simprocAttr]
  refine rosterOf_err r hh (by have:=hf.sets;omega) (by have:=hf.ents;omega) _ _ ?_
  generalize headE r=q at hh
  simp -implicitDefEqProofs (maxSteps:=9^9) (disch:=omega) only[go_sem,simprocAttr,Ros.wav,hh]
theorem rEnt_eq{x:Tn}{h:Int}(hh:1≤h∧h≤4):rEnt x h=(chkE x h).2:=by
 have hw:IntKind.i64.wrap (h-1)=h-1:=wrap64 (by omega) (by omega)
 unfold rEnt chkE
 rw[hw]
 by_cases c1:0≤x.day∧x.day≤60
 ·have nc1:¬¬(0≤x.day∧x.day≤60):=fun c=>c c1
  rw[if_neg nc1,if_neg nc1]
  by_cases c2: -1≤x.hand∧x.hand≤h-1
  ·have nc2:¬¬(-1≤x.hand∧x.hand≤h-1):=fun c=>c c2
   rw[if_neg nc2,if_neg nc2]
   by_cases c3:1≤x.due∧x.due≤100000
   ·have nc3:¬¬(1≤x.due∧x.due≤100000):=fun c=>c c3
    rw[if_neg nc3,if_neg nc3]
    by_cases c4:ck x.ear=0
    ·have nc4:¬(ck x.ear≠0):=fun c=>c c4
     rw[if_neg nc4,if_neg nc4]
     by_cases c5:1<x.ear.tones.length
     ·rw[if_pos c5,if_pos c5]
     ·rw[if_neg c5,if_neg c5]
      have hl:x.ear.tones.length≠0:=fun e=>by simp only[ck] at c4;rw[if_pos e] at c4;split at c4<;> omega
      have h0:oneE x.ear 0=0:=by unfold oneE;rw[if_pos (by omega)]
      have ha:askL x.ear (oneE x.ear 0)=knownL x.ear:=by
       unfold askL;rw[if_neg (by simp[c4]),if_neg (by simp[h0])]
      unfold tonesL valuesL
      rw[ha]
      by_cases hk:(knownL x.ear).2=0
      ·rw[if_pos hk,if_pos hk]
      ·rw[if_neg hk,if_neg hk]
    ·rw[if_pos c4,if_pos c4]
   ·rw[if_pos c3,if_pos c3]
  ·rw[if_pos c2,if_pos c2]
 ·rw[if_pos c1,if_pos c1]
theorem firstE_NZ{α:Type}{f g:α→Int}:∀{l:List α},(∀x∈l,f x=g x)→firstE f l=firstNZ (l.map g)
 | [],_=>rfl
 | x::l,h=>by
  show(if f x=0 then firstE f l else f x)=if g x=0 then firstNZ (l.map g) else g x
  rw[h x (by simp),firstE_NZ fun y hy=>h y (by simp[hy])]
theorem rosR_eq(r:Ros):rosR r=rosE r:=by
 unfold rosR rosE
 by_cases h:headE r=0
 ·rw[if_neg (fun c=>c h),if_neg (fun c=>c h)]
  have hh:=(r.head_of h).hands
  exact firstE_NZ fun x _=>rEnt_eq hh
 ·rw[if_pos h,if_pos h]
end Go.Proofs
namespace Go.Proofs
open Go Go.Mu Go.Ins
variable {S:MC Tryz.prog}
theorem Ros.Good.devR{r:Ros}(h:r.Good){x:Tn}(hx:x∈r.ents):∃a b,tonesL x.ear=([⟨a,b⟩],0)∧Go.Proofs.devR (chkE x r.hands).1=⟨a-x.due,b-x.due⟩∧(1≤a∧a≤100000)∧(1≤b∧b≤100000):=by
 obtain⟨sl,lo,hi,rds,h1,h2,h3,h4⟩:=h.one hx
 have ht:=(okE_of_ck h2).tone ⟨lo,hi⟩ (by simp)
 have m1:=oneV_mem.1 (tg0_mem h3)
 have m2:=oneV_mem.1 (tgl_mem h3)
 simp only at ht
 refine⟨tg (oneV sl lo hi rds) 0,tg (oneV sl lo hi rds) ((oneV sl lo hi rds).length-1),?_,?_,by omega,by omega⟩
 ·rw[h1,tones_one h2 h3];rfl
 ·rw[h4,devR_sub h3]
theorem rdeviation_p(r:Ros)(h:r.Good)(x:Tn)(hx:x∈r.ents)(h1:x.ear.tones.length≤1000000)(h2:x.ear.rds.length≤1000000):PureV S 114 [x.av] (devR (chkE x r.hands).1).av:=by
 obtain⟨a,b,e1,e2,e3,e4⟩:=h.devR hx
 have hd:=(h.ent x hx).2.2.1
 rw[e2]
 refine PvE (Tryz.envOK (S:=S) 26 Tryz.ord114 fs420 fs420_ok) (Rng.plain _) Tryz.kp114 Tryz.func114 rfl ?_
 intro σ
 obtain⟨day,hand,due,ear⟩:=x
 obtain⟨sl,ts,rs⟩:=ear
 simp only[Tn.av,Tn.cells] at h1 h2 e1 hd⊢
 have hwa:IntKind.i64.wrap (a-due)=a-due:=wrap64 (by omega) (by omega)
 have hwb:IntKind.i64.wrap (b-due)=b-due:=wrap64 (by omega) (by omega)
 clear e2 hx
 simp -implicitDefEqProofs (maxSteps:=9^9) (disch:=omega) only[go_sem,simprocAttr,e1,idx0,hwa,hwb,Rng.av]
theorem rdeviations_p(r:Ros)(h:r.Good)(hf:∀x∈r.ents,x.ear.tones.length≤1000000∧x.ear.rds.length≤1000000):PureV S 104 [r.av] (.list .no 2 (((entsL r).map devR).map Rng.av)):=by
 have hp:=fun x hx=>rdeviation_p (S:=S) r h x hx (hf x hx).1 (hf x hx).2
 have hel:=h.entl
 refine PvE (Tryz.envOK (S:=S) 22 (fun _=>([],[])) fs420 fs420_ok) (.map fun x _=>Rng.plain x) Tryz.kp104 Tryz.func104 rfl ?_
 intro σ
 have hm:(entsL r).map devR=r.ents.map fun x=>devR (chkE x r.hands).1:=by simp[entsL]
 rw[hm]
 obtain⟨hands,skill,mn,mx,sets,ents⟩:=r
 simp only[Ros.av] at hp hf hel⊢
 simp -implicitDefEqProofs (maxSteps:=9^9) (disch:=omega) only[go_sem,simprocAttr]
 refine ARun.ghost 3 2 (sz0:=0) rfl (by simp[lookA]) ?_
 simp only[ins,↓reduceIte,List.append_assoc,List.cons_append,List.nil_append,List.length_append,List.length_cons,List.length_nil,Nat.zero_add,Nat.reduceEqDiff]
 refine ARun.forS (Tryz.envOK (S:=S) 22 (fun _=>([],[])) fs420 fs420_ok) ents.length (fun _=>True) (fun i=>[(3,.list (.own (σ.length+1)) 2 (((ents.take i).map fun x=>devR (chkE x hands).1).map Rng.av)),(4,.int .i64 i)]) (fun i j=>σ++(.cells [.int .i64 hands,.int .i64 skill,.int .i64 mn,.int .i64 mx,.list .no 2 (sets.map Sg.av),.list .no 6 (ents.map Tn.av)]:: .tail i 2::j)) [] (by kernel_rfl) (by simp) (by simp[upd,ins,subF,lookA]) trivial ?_ ?_
 ·intro i j hi _ ih
  have hidx:idx (ents.map Tn.av) (i:Int)=some (Tn.av ents[i]):=idx_nat hi
  have hpi:=hp _ (List.getElem_mem hi)
  have hst:(ents.take (i+1)).map (fun x=>devR (chkE x hands).1)=(ents.take i).map (fun x=>devR (chkE x hands).1)++[devR (chkE ents[i] hands).1]:=by rw[List.take_succ_eq_append_getElem hi,List.map_append];rfl
  rw[hst] at ih
  have hbl:((ents.take i).map fun x=>devR (chkE x hands).1).length=i:=by rw[List.length_map,List.length_take];omega
  have hwi:IntKind.i64.wrap ((i:Int)+1)=((i+1:Nat):Int):=by rw[wrap64 (by omega) (by omega)];rfl
  have hcl:∀x:Rng,x.av.cells.length=2:=fun _=>rfl
  have hfl:∀x:Rng,x.av.flat=true:=fun _=>rfl
  generalize devR (chkE ents[i] hands).1=d at *
  generalize ents[i]=x at *
  generalize (ents.take i).map (fun x=>devR (chkE x hands).1)=B at *
  simp only[Tn.av,Tn.cells] at hidx hpi
  simp -implicitDefEqProofs (maxSteps:=9^9) (disch:=omega) only[go_sem,simprocAttr,hidx]
  refine hpi _ _ ?_
  simp -implicitDefEqProofs (maxSteps:=9^9) (disch:=omega) only[go_sem,simprocAttr,hidx,hwi,hbl,hcl,hfl]
  exact(ih trivial j).castS (by simp) (by simp[upd,ins,subF,lookA])
 ·intro j _
  rw[List.take_length]
  simp -implicitDefEqProofs (maxSteps:=9^9) (disch:=omega) only[go_sem,simprocAttr]
theorem rDevs_p(r:Ros)(hf:r.Fit):PureV S 41 [r.av] (.tup [.list .no 2 ((devsL r).map Rng.av),.int .i64 (rosE r)]):=by
 have hc:=rCheck11_p (S:=S) r hf.sets hf.ents hf.ear
 rw[rosR_eq] at hc
 by_cases hro:rosE r=0
 ·have hh:headE r=0:=Classical.byContradiction fun c=>by unfold rosE at hro;rw[if_pos c] at hro;exact c hro
  have he:entsE r=0:=by unfold rosE at hro;rw[if_neg (fun c=>c hh)] at hro;exact hro
  have hd:=rdeviations_p (S:=S) r (Ros.good_of hh he) hf.ear
  rw[show devsL r=(entsL r).map devR from if_pos hro]
  rw[hro] at hc⊢
  generalize (entsL r).map devR=L at hd⊢
  refine PvE (Tryz.envOK (S:=S) 12 (fun _=>([],[])) fs420 fs420_ok) (.tup (by simp only[List.mem_cons,List.not_mem_nil,or_false,forall_eq_or_imp,forall_eq];exact⟨.map fun x _=>Rng.plain x,.int⟩)) Tryz.kp41 Tryz.func41 rfl ?_
  intro σ
  simp only[Ros.av] at hc hd⊢
  simp -implicitDefEqProofs (maxSteps:=9^9) (disch:=omega) only[go_sem,simprocAttr]
  refine hc _ _ ?_
  simp -implicitDefEqProofs (maxSteps:=9^9) (disch:=omega) only[go_sem,simprocAttr]
  refine hd _ _ ?_
  simp -implicitDefEqProofs (maxSteps:=9^9) (disch:=omega) only[go_sem,simprocAttr]
 ·rw[show devsL r=[] from if_neg hro]
  generalize rosE r=q at hro hc⊢
  refine PvE (Tryz.envOK (S:=S) 12 (fun _=>([],[])) fs420 fs420_ok) (.tup (by simp only[List.mem_cons,List.not_mem_nil,or_false,forall_eq_or_imp,forall_eq];exact⟨.map fun x _=>Rng.plain x,.int⟩)) Tryz.kp41 Tryz.func41 rfl ?_
  intro σ
  simp only[Ros.av] at hc⊢
  simp -implicitDefEqProofs (maxSteps:=9^9) (disch:=omega) only[go_sem,simprocAttr]
  refine hc _ _ ?_
  have hro':(q=0)=False:=eq_false hro
  simp -implicitDefEqProofs (maxSteps:=9^9) (disch:=omega) only[go_sem,simprocAttr,hro']
theorem sameRos_p(r:Ros)(hs:r.sets.length≤1000000)(he:r.ents.length≤1000000)(hf:∀x∈r.ents,x.ear.tones.length≤1000000∧x.ear.rds.length≤1000000):PureV S 37 [r.av,r.av] (.bool true):=by
 have hse:∀x∈r.ents,PureV S 101 [x.ear.av,x.ear.av] (.bool true):=fun x hx=>by
  have h1:=(hf x hx).1
  have h2:=(hf x hx).2
  have:=sameEars_p (S:=S) x.ear x.ear (by omega) (by omega) (by omega) (by omega)
  rwa [decide_eq_true rfl] at this
 refine PvE (Tryz.envOK (S:=S) 115 Tryz.ord37 fs14 fs14_ok) (.bool) Tryz.kp37 Tryz.func37 rfl ?_
 intro σ
 obtain⟨hands,skill,mn,mx,sets,ents⟩:=r
 simp only[Ros.av] at hs he hf hse⊢
 simp -implicitDefEqProofs (maxSteps:=9^9) (disch:=omega) only[go_sem,simprocAttr]
 refine ARun.forS (Tryz.envOK (S:=S) 115 Tryz.ord37 fs14 fs14_ok) sets.length (fun _=>True) (fun i=>[(6,.int .i64 i)]) (fun _ _=>σ++[.cells [.int .i64 hands,.int .i64 skill,.int .i64 mn,.int .i64 mx,.list .no 2 (sets.map Sg.av),.list .no 6 (ents.map Tn.av)],.cells [.int .i64 hands,.int .i64 skill,.int .i64 mn,.int .i64 mx,.list .no 2 (sets.map Sg.av),.list .no 6 (ents.map Tn.av)]]) [] (by kernel_rfl) (by simp) (by simp[upd,ins,subF,lookA]) trivial ?_ ?_
 ·intro i j hi _ ih
  have hidx:idx (sets.map Sg.av) (i:Int)=some (Sg.av sets[i]):=idx_nat hi
  have hwi:IntKind.i64.wrap ((i:Int)+1)=((i+1:Nat):Int):=by rw[wrap64 (by omega) (by omega)];rfl
  generalize sets[i]=s at *
  simp only[Sg.av] at hidx
  simp -implicitDefEqProofs (maxSteps:=9^9) (disch:=omega) only[go_sem,simprocAttr,hidx,hwi]
  exact(ih trivial []).castS rfl (by simp[upd,ins,subF,lookA])
 ·intro j _
  simp -implicitDefEqProofs (maxSteps:=9^9) (disch:=omega) only[go_sem,simprocAttr]
  refine ARun.forS (Tryz.envOK (S:=S) 115 Tryz.ord37 fs14 fs14_ok) ents.length (fun _=>True) (fun i=>[(7,.int .i64 i)]) (fun i j=>σ++(.cells [.int .i64 hands,.int .i64 skill,.int .i64 mn,.int .i64 mx,.list .no 2 (sets.map Sg.av),.list .no 6 (ents.map Tn.av)]:: .cells [.int .i64 hands,.int .i64 skill,.int .i64 mn,.int .i64 mx,.list .no 2 (sets.map Sg.av),.list .no 6 (ents.map Tn.av)]::j)) [] (by kernel_rfl) (by simp) (by simp[upd,ins,subF,lookA]) trivial ?_ ?_
  ·intro i j hi _ ih
   have hidx:idx (ents.map Tn.av) (i:Int)=some (Tn.av ents[i]):=idx_nat hi
   have hwi:IntKind.i64.wrap ((i:Int)+1)=((i+1:Nat):Int):=by rw[wrap64 (by omega) (by omega)];rfl
   have hsi:=hse _ (List.getElem_mem hi)
   generalize ents[i]=x at *
   obtain⟨day,hand,due,ear⟩:=x
   obtain⟨sl,ts,rs⟩:=ear
   simp only[Tn.av,Tn.cells,Ear.av] at hidx hsi
   simp -implicitDefEqProofs (maxSteps:=9^9) (disch:=omega) only[go_sem,simprocAttr,hidx]
   refine hsi _ _ ?_
   simp -implicitDefEqProofs (maxSteps:=9^9) (disch:=omega) only[go_sem,simprocAttr,hwi]
   exact(ih trivial (j++[.cells [.int .i64 day,.int .i64 hand,.int .i64 due,.int .i64 sl,.list .no 2 (ts.map Rng.av),.list .no 6 (rs.map Rd.av)],.cells [.int .i64 day,.int .i64 hand,.int .i64 due,.int .i64 sl,.list .no 2 (ts.map Rng.av),.list .no 6 (rs.map Rd.av)]])).castS (by simp) (by simp[upd,ins,subF,lookA])
  ·intro j _
   simp -implicitDefEqProofs (maxSteps:=9^9) (disch:=omega) only[go_sem,simprocAttr]
def loudB(e:Ear):Bool:=decide (20<e.tones.length)||decide (20<e.rds.length)
theorem loud11_p(e:Ear)(h1:e.tones.length≤4294967296)(h2:e.rds.length≤4294967296):PureV S 28 [e.av] (.bool (loudB e)):=by
 refine PvE (Tryz.envOK (S:=S) 13 (fun _=>([],[])) fs0 fs0_ok) (.bool) Tryz.kp28 Tryz.func28 rfl ?_
 intro σ
 obtain⟨sl,ts,rs⟩:=e
 simp only[Ear.av,loudB] at h1 h2⊢
 by_cases c1:20<ts.length
 ·have c1':(20<(ts.length:Int))=True:=eq_true (by omega)
  simp -implicitDefEqProofs (maxSteps:=9^9) (disch:=omega) only[go_sem,simprocAttr,c1']
 ·have c1':(20<(ts.length:Int))=False:=eq_false (by omega)
  simp -implicitDefEqProofs (maxSteps:=9^9) (disch:=omega) only[go_sem,simprocAttr,c1']
  simp[c1];omega
def crowdB(r:Ros):Bool:=(r.ents.take 20).any (fun x=>loudB x.ear)||(decide (20<r.sets.length)||decide (20<r.ents.length))
theorem crowd11_p(r:Ros)(hs:r.sets.length≤4294967296)(he:r.ents.length≤4294967296)(hf:∀x∈r.ents,x.ear.tones.length≤4294967296∧x.ear.rds.length≤4294967296):PureV S 27 [r.av] (.bool (crowdB r)):=by
 have hld:=fun x hx=>loud11_p (S:=S) (Tn.ear x) (hf x hx).1 (hf x hx).2
 refine PvE (Tryz.envOK (S:=S) 32 (fun _=>([],[])) fs0 fs0_ok) (.bool) Tryz.kp27 Tryz.func27 rfl ?_
 intro σ
 obtain⟨hands,skill,mn,mx,sets,ents⟩:=r
 simp only[Ros.av,crowdB] at hs he hf hld⊢
 simp -implicitDefEqProofs (maxSteps:=9^9) (disch:=omega) only[go_sem,simprocAttr]
 have hML:(ents.take 20).length≤20:=by rw[List.length_take];omega
 have hMl:(ents.take 20).length=min 20 ents.length:=List.length_take
 refine ARun.forS (Tryz.envOK (S:=S) 32 (fun _=>([],[])) fs0 fs0_ok) (ents.take 20).length (fun i=>((ents.take 20).take i).any (fun x=>loudB x.ear)=false) (fun i=>[(3,.int .i64 i)]) (fun _ j=>σ++(.cells [.int .i64 hands,.int .i64 skill,.int .i64 mn,.int .i64 mx,.list .no 2 (sets.map Sg.av),.list .no 6 (ents.map Tn.av)]::j)) [] (by kernel_rfl) (by simp) (by simp[upd,ins,subF,lookA]) (by simp) ?_ ?_
 ·intro i j hi hp ih
  have hie:i<ents.length:=by omega
  have hidx:idx (ents.map Tn.av) (i:Int)=some (Tn.av ents[i]):=idx_nat hie
  have hwi:IntKind.i64.wrap ((i:Int)+1)=((i+1:Nat):Int):=by rw[wrap64 (by omega) (by omega)];rfl
  have hli:=hld _ (List.getElem_mem hie)
  have hil:((i:Int)<ents.length)=True:=eq_true (by omega)
  have hi20:((i:Int)<20)=True:=eq_true (by omega)
  have hst:((ents.take 20).take (i+1)).any (fun x=>loudB x.ear)=(((ents.take 20).take i).any (fun x=>loudB x.ear)||loudB ents[i].ear):=by
   rw[List.take_succ_eq_append_getElem hi,List.any_append];simp
  have hany:loudB ents[i].ear=true→(ents.take 20).any (fun x=>loudB x.ear)=true:=fun h=>List.any_eq_true.2 ⟨ents[i],by rw[← List.getElem_take (h:=hi)];exact List.getElem_mem hi,h⟩
  rw[hst,hp,Bool.false_or] at ih
  clear hst
  generalize ents[i]=x at *
  obtain⟨day,hand,due,ear⟩:=x
  obtain⟨sl,ts,rs⟩:=ear
  simp only[Tn.av,Tn.cells,Ear.av] at hidx hli hany ih
  simp -implicitDefEqProofs (maxSteps:=9^9) (disch:=omega) only[go_sem,simprocAttr,hidx,hil,hi20]
  refine hli _ _ ?_
  generalize loudB ⟨sl,ts,rs⟩= B at *
  cases B
  ·simp -implicitDefEqProofs (maxSteps:=9^9) (disch:=omega) only[go_sem,simprocAttr,hwi]
   exact(ih rfl j).castS rfl (by simp[upd,ins,subF,lookA])
  ·simp -implicitDefEqProofs (maxSteps:=9^9) (disch:=omega) only[go_sem,simprocAttr]
   rw[hany rfl];rfl
 ·intro j hp
  rw[List.take_length] at hp
  rw[hp,Bool.false_or]
  by_cases c0:ents.length≤20
  ·have hl:((ents.take 20).length:Int)=ents.length:=by omega
   rw[hl]
   by_cases c1:20<sets.length
   ·have c1':(20<(sets.length:Int))=True:=eq_true (by omega)
    simp -implicitDefEqProofs (maxSteps:=9^9) (disch:=omega) only[go_sem,simprocAttr,c1']
   ·have c1':(20<(sets.length:Int))=False:=eq_false (by omega)
    have c2':(20<(ents.length:Int))=False:=eq_false (by omega)
    simp -implicitDefEqProofs (maxSteps:=9^9) (disch:=omega) only[go_sem,simprocAttr,c1',c2']
  ·have hl:((ents.take 20).length:Int)=20:=by omega
   rw[hl]
   have c2':(20<(ents.length:Int))=True:=eq_true (by omega)
   by_cases c1:20<sets.length
   ·have c1':(20<(sets.length:Int))=True:=eq_true (by omega)
    simp -implicitDefEqProofs (maxSteps:=9^9) (disch:=omega) only[go_sem,simprocAttr,c1',c2']
   ·have c1':(20<(sets.length:Int))=False:=eq_false (by omega)
    simp -implicitDefEqProofs (maxSteps:=9^9) (disch:=omega) only[go_sem,simprocAttr,c1',c2']
end Go.Proofs
namespace Go.Proofs
open Go Go.Mu Go.Ins
theorem _root_.Go.Mu.ACalls.of_evN{E:Env}(n:Nat)(hE:EnvOK E){f:FuncId}{fn:Func}{c:Code}{args:List AV}{σ:List AObj}{Q:AV→List AObj→Prop}(kp:Nat→Bool)(hf:E.P.funcs[f]? = some fn)(hb:fn.body=some c)(hN:fn.ntmps=E.N)(hA:args.length≤E.N)
  (hC:Callable E.P f) (hO:todoOK E [.code c]=true)
  (h:ev E none n [.code c] ⟨kp,[],number 0 args⟩ σ (retPost E fn.results.toList Q)):ACalls E.S f args σ Q:=by
 refine ACalls.of_run hE kp hf hb hN hA hC ((ev_sound hE hO h).mono fun j fr σ' ⟨h1,h2⟩=>⟨h1,?_⟩)
 cases hr:resAs E fr σ' fn.results.toList with
 | none=>rw[hr] at h2;exact h2.elim
 | some vs=>rw[hr] at h2;exact⟨vs,rfl,h2⟩
theorem rosters_c(r:Ros)(x:Tn)(l:List Int)(hl:l.length≤4294967296)(σ:List AObj)(Q:AV→List AObj→Prop)(h:∀made rates by_ j,TrueR 3 4 3 made rates by_→Q (.list .no 6 ([r,made,made.snoc x].map Ros.av)) (σ++j)) :
  ACalls SBes 29 [r.av,x.av,.list .no 1 (l.map (.int .i64))] σ Q:=by
 refine ACalls.wkW ?_
 refine ACalls.of_evN 8 (E:=Tryz.E (S:=SBes) 28 (fun _=>([],[])) fs0) (Tryz.envOK (S:=SBes) 28 (fun _=>([],[])) fs0 fs0_ok) Tryz.kp29 Tryz.func29 rfl (by kernel_rfl) (by simp[Tryz.E]) (Callable.of Tryz.func29 (by kernel_rfl) (by kernel_rfl)) (by kernel_rfl) ?_
 obtain⟨hands,skill,mn,mx,sets,ents⟩:=r
 obtain⟨day,hand,due,ear⟩:=x
 obtain⟨sl,ts,rs⟩:=ear
 simp only[Ros.av,Tn.av,Tn.cells]
 simp -implicitDefEqProofs (maxSteps:=9^9) (disch:=omega) only[go_sem,simprocAttr]
 refine newPot_c l .no hl _ _ fun s1 j1=>?_
 simp -implicitDefEqProofs (maxSteps:=9^9) (disch:=omega) only[go_sem,simprocAttr]
 refine rosterOf_c (σ.length+2) 3 4 3 (by omega) (by omega) (by omega) _ ⟨s1,by rw[hget_at];rfl⟩ _ fun s2 made rates by_ j2 hT=>?_
 have hfit:=hT.fit (by omega)
 have hs2:=hT.sl
 have hel:=hT.el
 replace h:=fun j=>h made rates by_ j hT
 clear hT
 unfold pw
 rw[hset_at]
 simp only[List.set_cons_succ,List.set_cons_zero,List.append_assoc,List.cons_append]
 simp only[Ros.av,truAV,ints1]
 simp -implicitDefEqProofs (maxSteps:=9^9) (disch:=omega) only[go_sem,simprocAttr]
 obtain⟨σ2,hσ2⟩:∃σ2,σ2=σ++(AObj.cells [.int .i64 hands,.int .i64 skill,.int .i64 mn,.int .i64 mx,.list .no 2 (sets.map Sg.av),.list .no 6 (ents.map Tn.av)]::AObj.cells [.int .i64 day,.int .i64 hand,.int .i64 due,.int .i64 sl,.list .no 2 (ts.map Rng.av),.list .no 6 (rs.map Rd.av)]::AObj.cells [.int .u64 s2]::(j1++(j2++[AObj.cells [.int .i64 made.hands,.int .i64 made.skill,.int .i64 made.mn,.int .i64 made.mx,.list .no 2 (made.sets.map Sg.av),.list .no 6 (made.ents.map Tn.av)],AObj.cells [.list .no 1 (rates.map (.int .i64)),.list .no 1 (by_.map (.int .i64))]]))):=⟨_,rfl⟩
 obtain⟨J,hJ⟩:∃J,σ2=σ++J:=⟨_,hσ2⟩
 obtain⟨q7,hq7⟩:∃q7,q7=σ.length+(j1.length+j2.length+1+1+1):=⟨_,rfl⟩
 have hb0:∀k,hget (σ2++k) σ.length=some (AObj.cells [.int .i64 hands,.int .i64 skill,.int .i64 mn,.int .i64 mx,.list .no 2 (sets.map Sg.av),.list .no 6 (ents.map Tn.av)]):=fun k=>by rw[hσ2,List.append_assoc,hget_at0];rfl
 have hb1:∀k,hget (σ2++k) (σ.length+1)=some (AObj.cells [.int .i64 day,.int .i64 hand,.int .i64 due,.int .i64 sl,.list .no 2 (ts.map Rng.av),.list .no 6 (rs.map Rd.av)]):=fun k=>by rw[hσ2,List.append_assoc,hget_at];rfl
 have hb7:∀k,hget (σ2++k) q7=some (AObj.cells [.int .i64 made.hands,.int .i64 made.skill,.int .i64 made.mn,.int .i64 made.mx,.list .no 2 (made.sets.map Sg.av),.list .no 6 (made.ents.map Tn.av)]):=fun k=>by
  rw[hσ2,hq7,List.append_assoc,hget_at]
  simp only[List.cons_append,List.append_assoc,List.getElem?_cons_succ]
  rw[List.getElem?_append_right (by omega),Nat.add_sub_cancel_left,List.getElem?_append_right (Nat.le_refl _),Nat.sub_self]
  rfl
 rw[← hσ2,← hq7]
 clear hσ2 hq7
 refine copyRoster_c made (by omega) (by omega) hfit.ear _ _ fun a1 a2 a3 j3=>?_
 simp only[Ros.avv]
 simp -implicitDefEqProofs (maxSteps:=9^9) (disch:=omega) only[go_sem,simprocAttr,hb0,hb1,hb7]
 have hsetl:∀(j:List AObj) (c c':AObj),(j++[c]).set j.length c'=j++[c']:=fun j c c'=>by simp[List.set_append]
 change ARun _ _ _ _ _ _
 refine ARun.freezeK (σ2.length+(j3.length+1+1+1+1)) 5 (r:=σ2.length+3) (n:=made.ents.length+1) (sz:=6) (xs:=made.ents.map Tn.av++[.agg [.int .i64 day,.int .i64 hand,.int .i64 due,.int .i64 sl,.list .no 2 (ts.map Rng.av),.list .no 6 (rs.map Rd.av)]]) (by rw[hget_at];simp;rfl) rfl (by rw[hget_at];rfl) (by simp) ?_
 rw[hset_at,hset_at]
 simp only[List.set_cons_succ,List.set_cons_zero,hsetl]
 refine ev_sound (Tryz.envOK (S:=SBes) 28 (fun _=>([],[])) fs0 fs0_ok) (n:=1000) (by kernel_rfl) ?_
 simp -implicitDefEqProofs (maxSteps:=9^9) (disch:=omega) only[go_sem,simprocAttr,hb0,hb1,hb7]
 refine⟨_,wk_weak (w:= .list .no 6 ([⟨hands,skill,mn,mx,sets,ents⟩,made,made.snoc ⟨day,hand,due,⟨sl,ts,rs⟩⟩].map Ros.av)) ⟨by simp[Ros.av,Ros.snoc,Tn.av,Tn.cells],.inl rfl,.inl rfl⟩,?_⟩
 rw[hJ,List.append_assoc]
 exact h _
end Go.Proofs
namespace Go.Proofs
open Go Go.Mu Go.Ins
variable {S:MC Tryz.prog}
end Go.Proofs
namespace Go.Proofs
open Go Go.Mu Go.Ins
end Go.Proofs
namespace Go.Proofs
open Go Go.Mu Go.Ins
variable {S:MC Tryz.prog}
end Go.Proofs
namespace Go.Proofs
open Go Go.Mu Go.Ins
theorem hcopyRos_p(r:Ros)(hs:r.sets.length≤1000)(hn:r.ents.length≤1000)(he:∀x∈r.ents,x.ear.tones.length≤1000000∧x.ear.rds.length≤1000000):PureV SBes 30 [r.av] r.av:=by
 intro σ Q hq
 have hQ:Q r.av σ:=hq
 refine ACalls.clean ?_
 refine ACalls.frozeG ?_
 refine copyRoster_c r hs hn he σ _ fun a b c j=>?_
 refine⟨_,5,σ.length+3,6,r.ents.map Tn.av,rfl,?_,by rw[hget_at];rfl,?_⟩
 ·simp
 ·rw[hset_at]
  exact⟨r.av,_,rfl,Weak.refl _,r.plain _,hQ⟩
structure Ros.Few(r:Ros):Prop where
 sets:r.sets.length≤20
 ents:r.ents.length≤20
 ear:∀x∈r.ents,x.ear.tones.length≤20∧x.ear.rds.length≤20
theorem Ros.Few.fit{r:Ros}(h:r.Few):r.Fit:=⟨by have:=h.sets;omega,by have:=h.ents;omega,fun x hx=>by have:=h.ear x hx;omega⟩
theorem loudB_few{e:Ear}(h:loudB e=false):e.tones.length≤20∧e.rds.length≤20:=by
 unfold loudB at h
 simp at h
 omega
theorem crowdB_few{r:Ros}(h:crowdB r=false):r.Few:=by
 unfold crowdB at h
 simp only[Bool.or_eq_false_iff,decide_eq_false_iff_not] at h
 obtain⟨h1,h2,h3⟩:=h
 refine⟨by omega,by omega,fun x hx=>loudB_few ?_⟩
 rw[List.take_of_length_le (by omega)] at h1
 have:=List.any_eq_false.1 h1 x hx
 simpa using this
theorem TrueR.few{H E w:Int}{r:Ros}{rates by_:List Int}(h:TrueR H E w r rates by_)(hE:E≤5):r.Few:=by
 have h1:=h.sl
 have h2:=h.el
 refine⟨by omega,by omega,fun x hx=>?_⟩
 obtain⟨b,hb⟩:=h.by_at hx
 obtain⟨t,lo,hi,rds,_,_,g3,g4⟩:=hb.ear
 rw[g4]
 rcases g3 with rfl | rfl<;> simp
theorem Ros.Few.snoc{r:Ros}{x:Tn}(h:r.Few)(he:r.ents.length≤19)(hx:x.ear.tones.length≤20∧x.ear.rds.length≤20):(r.snoc x).Few:=by
 refine⟨h.sets,by show(r.ents++[x]).length≤20;simp;omega,fun y hy=>?_⟩
 rcases List.mem_append.1 (show y∈r.ents++[x] from hy) with hy | hy
 ·exact h.ear y hy
 ·simp at hy;subst hy;exact hx
theorem handChecks_law(r:Ros)(x:Tn)(l:List Int)(hl:l.length≤4294967296)(h1:r.sets.length≤4294967296)(h2:r.ents.length≤4294967296)(h3:∀y∈r.ents,y.ear.tones.length≤4294967296∧y.ear.rds.length≤4294967296)(h4:x.ear.tones.length≤4294967296∧x.ear.rds.length≤4294967296)(σ:List AObj) :
  ACalls SBes 6 [r.av,x.av,.list .no 1 (l.map (.int .i64))] σ fun v _=>v= .bool true:=by
 refine AcE (Tryz.envOK (S:=SBes) 79 Tryz.ord6 fs408 fs408_ok) Tryz.kp6 Tryz.func6 rfl ?_
 have hcr:=crowd11_p (S:=SBes) r h1 h2 h3
 have hld:=loud11_p (S:=SBes) x.ear h4.1 h4.2
 have hrs:=fun σ Q h=>rosters_c r x l hl σ Q h
 have hfc:=@crowdB_few r
 have hfl:=@loudB_few x.ear
 generalize hC:crowdB r=C at *
 generalize loudB x.ear=Lo at *
 obtain⟨rav,hrav⟩:∃v,v=r.av:=⟨_,rfl⟩
 simp only[Ros.av,Tn.av,Tn.cells,Ear.av] at hcr hld hrs⊢
 cases C
 ·simp -implicitDefEqProofs (maxSteps:=9^9) (disch:=omega) only[go_sem,simprocAttr]
  refine hcr _ _ ?_
  cases Lo
  ·simp -implicitDefEqProofs (maxSteps:=9^9) (disch:=omega) only[go_sem,simprocAttr]
   refine hld _ _ ?_
   simp -implicitDefEqProofs (maxSteps:=9^9) (disch:=omega) only[go_sem,simprocAttr]
   refine hrs _ _ fun made rates by_ j hT=>?_
   have hF1:=hfc rfl
   have hF2:=hT.few (by omega)
   have hel:=hT.el
   have hF3:=hF2.snoc (x:=x) (by omega) (hfl rfl)
   obtain⟨RS,hRS⟩:∃RS,RS=[r,made,made.snoc x]:=⟨_,rfl⟩
   have hlen:RS.length=3:=by rw[hRS];rfl
   have hfew:∀y∈RS,y.Few:=fun y hy=>by rw[hRS] at hy;simp at hy;rcases hy with rfl | rfl | rfl<;> assumption
   rw[← hRS]
   clear hRS hF1 hF2 hF3 hT hcr hld hrs hfc hfl hel hC
   obtain⟨σ1,hσ1⟩:∃σ1,σ1=σ++(AObj.cells [.int .i64 r.hands,.int .i64 r.skill,.int .i64 r.mn,.int .i64 r.mx,.list .no 2 (r.sets.map Sg.av),.list .no 6 (r.ents.map Tn.av)]::AObj.cells [.int .i64 x.day,.int .i64 x.hand,.int .i64 x.due,.int .i64 x.ear.slack,.list .no 2 (x.ear.tones.map Rng.av),.list .no 6 (x.ear.rds.map Rd.av)]::j):=⟨_,rfl⟩
   simp only[List.append_assoc,List.cons_append,List.nil_append]
   rw[← hσ1]
   clear hσ1
   simp -implicitDefEqProofs (maxSteps:=9^9) (disch:=omega) only[go_sem,simprocAttr,hlen]
   refine ARun.forS (Tryz.envOK (S:=SBes) 79 Tryz.ord6 fs408 fs408_ok) 3 (fun _=>True) (fun i=>[(8,.int .i64 i)]) (fun _ j=>σ1++j) [] (by kernel_rfl) (by simp) (by simp[upd,ins,subF,lookA]) trivial ?_ ?_
   ·intro i j hi _ ih
    have hidx:idx (RS.map Ros.av) (i:Int)=some (Ros.av (RS[i]'(by omega))):=idx_nat (by omega)
    have hfy:=hfew _ (List.getElem_mem (l:=RS) (n:=i) (by omega))
    have hwi:IntKind.i64.wrap ((i:Int)+1)=((i+1:Nat):Int):=by rw[wrap64 (by omega) (by omega)];rfl
    have hi3:((i:Int)<3)=True:=eq_true (by omega)
    generalize RS[i]'(by omega)=y at *
    have hfit:=hfy.fit
    have hs1:=hfy.sets
    have hs2:=hfy.ents
    have hcp:=hcopyRos_p y (by omega) (by omega) hfit.ear
    have hdv:=deviations_p y hfit
    have hrd:=rDevs_p (S:=SBes) y hfit
    have hck:=hCheck_p y hfit
    have hrc:=rCheck11_p (S:=SBes) y hfit.sets hfit.ents hfit.ear
    rw[rosR_eq] at hrc
    have hss:=sameRos_p (S:=SBes) y hfit.sets hfit.ents hfit.ear
    have hDl:(devsL y).length≤1000000:=by
     unfold devsL
     split
     ·rw[List.length_map,entsL_len];omega
     ·simp
    have hsr:=sameRanges_p (S:=SBes) (devsL y) (devsL y) (by omega) (by omega)
    generalize devsL y=DL at *
    generalize rosE y=e at *
    have hav:y.av= .agg [.int .i64 y.hands,.int .i64 y.skill,.int .i64 y.mn,.int .i64 y.mx,.list .no 2 (y.sets.map Sg.av),.list .no 6 (y.ents.map Tn.av)]:=rfl
    rw[hav] at hidx hcp hdv hrd hck hrc hss
    simp -implicitDefEqProofs (maxSteps:=9^9) (disch:=omega) only[go_sem,simprocAttr,hidx,hi3]
    refine hcp _ _ ?_
    simp -implicitDefEqProofs (maxSteps:=9^9) (disch:=omega) only[go_sem,simprocAttr,hidx]
    refine hdv _ _ ?_
    simp -implicitDefEqProofs (maxSteps:=9^9) (disch:=omega) only[go_sem,simprocAttr,hidx]
    refine hrd _ _ ?_
    simp -implicitDefEqProofs (maxSteps:=9^9) (disch:=omega) only[go_sem,simprocAttr,hidx]
    refine hck _ _ ?_
    simp -implicitDefEqProofs (maxSteps:=9^9) (disch:=omega) only[go_sem,simprocAttr,hidx]
    refine hrc _ _ ?_
    simp -implicitDefEqProofs (maxSteps:=9^9) (disch:=omega) only[go_sem,simprocAttr,hidx]
    refine hsr _ _ ?_
    rw[decide_eq_true rfl]
    simp -implicitDefEqProofs (maxSteps:=9^9) (disch:=omega) only[go_sem,simprocAttr,hidx]
    refine hss _ _ ?_
    simp -implicitDefEqProofs (maxSteps:=9^9) (disch:=omega) only[go_sem,simprocAttr,hidx,hwi]
    exact(ih trivial (j++[AObj.cells [.int .i64 y.hands,.int .i64 y.skill,.int .i64 y.mn,.int .i64 y.mx,.list .no 2 (y.sets.map Sg.av),.list .no 6 (y.ents.map Tn.av)]])).castS rfl (by simp[upd,ins,subF,lookA])
   ·intro j _
    simp -implicitDefEqProofs (maxSteps:=9^9) (disch:=omega) only[go_sem,simprocAttr,hlen]
    refine steady_p _ _ ?_
    simp -implicitDefEqProofs (maxSteps:=9^9) (disch:=omega) only[go_sem,simprocAttr]
  ·simp -implicitDefEqProofs (maxSteps:=9^9) (disch:=omega) only[go_sem,simprocAttr]
   refine hld _ _ ?_
   simp -implicitDefEqProofs (maxSteps:=9^9) (disch:=omega) only[go_sem,simprocAttr]
   refine steady_p _ _ ?_
   simp -implicitDefEqProofs (maxSteps:=9^9) (disch:=omega) only[go_sem,simprocAttr]
 ·simp -implicitDefEqProofs (maxSteps:=9^9) (disch:=omega) only[go_sem,simprocAttr]
  refine hcr _ _ ?_
  simp -implicitDefEqProofs (maxSteps:=9^9) (disch:=omega) only[go_sem,simprocAttr]
  refine steady_p _ _ ?_
  simp -implicitDefEqProofs (maxSteps:=9^9) (disch:=omega) only[go_sem,simprocAttr]
end Go.Proofs
