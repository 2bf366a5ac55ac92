/- Texts of a proof: lemmas. -/
import Derived.Test.YtgbdndlmdklefaaGreatDK37
import Derived.Test.YtgbdndlmdklefaaGreatDK35
import Derived.Test.YtgbdndlmdklefaaGreatDK36
import Derived.Test.YtgbdndlmdklefaaGreatDK30
set_option linter.unusedSimpArgs false
set_option linter.unusedVariables false
set_option maxRecDepth 100000
set_option maxHeartbeats 40000000
namespace Go.Proofs
open Go Go.Mu Go.Ins
theorem idx0(a:AV)(l:List AV):idx (a::l) 0=some a:=rfl
end Go.Proofs
namespace Go.Proofs
open Go Go.Mu Go.Ins
variable {S:MC Tryz.prog}
end Go.Proofs
namespace Go.Proofs
open Go Go.Mu Go.Ins
theorem spanL_spec{num:List Int→Int}{l:List (List Int)}(hl:l≠[]):(∀t∈l,(spanL num l).lo≤num t∧num t≤(spanL num l).hi)∧(∃t∈l,num t=(spanL num l).lo)∧(∃t∈l,num t=(spanL num l).hi):=by
 have key:∀(l p:List (List Int)) (y:Rng),((∀t∈p,y.lo≤num t∧num t≤y.hi)∧(∃t∈p,num t=y.lo)∧(∃t∈p,num t=y.hi))→
   ((∀t∈p++l,(l.foldl (spanS num) y).lo≤num t∧num t≤(l.foldl (spanS num) y).hi)∧(∃t∈p++l,num t=(l.foldl (spanS num) y).lo)∧(∃t∈p++l,num t=(l.foldl (spanS num) y).hi)):=by
  intro l
  induction l with
  | nil=>intro p y h;simpa using h
  | cons t l ih=>
   intro p y ⟨h1,⟨a,ha,ha2⟩,⟨b,hb,hb2⟩⟩
   have e:p++t::l=(p++[t])++l:=by simp
   rw[e]
   refine ih (p++[t]) (spanS num y t) ⟨fun u hu=>?_,?_,?_⟩
   ·rcases List.mem_append.1 hu with hu | hu
    ·have:=h1 u hu
     simp only[spanS,mn,mx];split<;> split<;> omega
    ·simp at hu;subst hu
     simp only[spanS,mn,mx];split<;> split<;> omega
   ·simp only[spanS,mn]
    split
    ·exact⟨t,by simp,rfl⟩
    ·exact⟨a,by simp[ha],ha2⟩
   ·simp only[spanS,mx]
    split
    ·exact⟨t,by simp,rfl⟩
    ·exact⟨b,by simp[hb],hb2⟩
 obtain⟨t,l,rfl⟩:∃t l',l=t::l':=by cases l with | nil=>exact absurd rfl hl | cons a b=>exact⟨a,b,rfl⟩
 have:=key l [t] (spanS num ⟨num t,num t⟩ t) ⟨fun u hu=>by simp at hu;subst hu;simp[spanS,mn,mx],⟨t,by simp,by simp[spanS,mn]⟩,⟨t,by simp,by simp[spanS,mx]⟩⟩
 simpa[spanL] using this
def oneB(sl:Int)(rds:List Rd)(v:Int):Bool:=rds.all fun r=>isR r sl [v,0,0]
def oneV(sl lo hi:Int)(rds:List Rd):List Int:=((List.range (hi-lo+1).toNat).filter fun(k:Nat)=>oneB sl rds (lo+k)).map fun(k:Nat)=>lo+(k:Int)
theorem flat_if{α:Type}(P:Nat→Bool)(f:Nat→α):∀l:List Nat,(l.flatMap fun k=>if P k then[f k] else[])=(l.filter P).map f
 | []=>rfl
 | k::l=>by
  rw[List.flatMap_cons,flat_if P f l,List.filter_cons]
  by_cases h:P k=true
  ·rw[if_pos h,if_pos h];rfl
  ·rw[if_neg h,if_neg h];rfl
theorem truths_one(sl lo hi:Int)(rds:List Rd):truthsL ⟨sl,[⟨lo,hi⟩],rds⟩=(oneV sl lo hi rds).map fun v=>[v,0,0]:=by
 rw[truthsL_one]
 unfold oneV
 rw[List.map_map]
 exact flat_if (fun(k:Nat)=>oneB sl rds (lo+k)) (fun(k:Nat)=>[lo+(k:Int),0,0]) _
theorem oneV_mem{sl lo hi:Int}{rds:List Rd}{v:Int}:v∈oneV sl lo hi rds↔(lo≤v∧v≤hi)∧oneB sl rds v=true:=by
 unfold oneV
 simp only[List.mem_map,List.mem_filter,List.mem_range]
 constructor
 ·rintro⟨k,⟨h1,h2⟩,rfl⟩;exact⟨by omega,h2⟩
 ·rintro⟨h1,h2⟩
  have e:lo+((v-lo).toNat:Int)=v:=by omega
  exact⟨(v-lo).toNat,⟨by omega,by rw[e];exact h2⟩,e⟩
theorem oneV_asc(sl lo hi:Int)(rds:List Rd):(oneV sl lo hi rds).Pairwise (· < ·):=by
 unfold oneV
 rw[List.pairwise_map]
 exact(List.pairwise_lt_range.filter _).imp fun h=>by omega
theorem oneV_firsts(sl lo hi:Int)(rds:List Rd):firstsL ((truthsL ⟨sl,[⟨lo,hi⟩],rds⟩).map fun t=>tg t 0)=oneV sl lo hi rds:=by
 rw[truths_one,List.map_map]
 have e:((fun t=>tg t 0)∘fun(v:Int)=>[v,0,0])=id:=by funext v;rfl
 rw[e,List.map_id]
 have:=firsts_self (oneV sl lo hi rds) [] (by rw[List.nil_append];exact(oneV_asc sl lo hi rds).imp fun h=>by omega)
 simpa[firstsL] using this
theorem oneV_nil{sl lo hi:Int}{rds:List Rd}(h:oneV sl lo hi rds≠[]):truthsL ⟨sl,[⟨lo,hi⟩],rds⟩≠[]:=by
 rw[truths_one];simpa using h
theorem chkE_oneV{x:Tn}{h sl lo hi:Int}{rds:List Rd}(h1:0≤x.day∧x.day≤60)(h2: -1≤x.hand∧x.hand≤h-1)(h3:1≤x.due∧x.due≤100000)(he:x.ear=⟨sl,[⟨lo,hi⟩],rds⟩)(hk:ck x.ear=0)(hn:oneV sl lo hi rds≠[]) :
  chkE x h=((oneV sl lo hi rds).map (· - x.due),0):=by
 rw[chkE_one h1 h2 h3 hk (by rw[he];rfl) (by rw[he];exact oneV_nil hn),he,oneV_firsts]
def devR(l:List Int):Rng:=⟨tg l 0,tg l ((l.length:Int)-1)⟩
theorem asc_tg{l:List Int}(h:l.Pairwise (· < ·)){v:Int}(hv:v∈l):tg l 0≤v∧v≤tg l ((l.length:Int)-1):=by
 obtain⟨i,hi,rfl⟩:=List.mem_iff_getElem.1 hv
 have e0:tg l 0=l[0]'(by omega):=by unfold tg;rw[show Int.toNat 0=0 from rfl,List.getD_eq_getElem?_getD,List.getElem?_eq_getElem (by omega)];rfl
 have e1:tg l ((l.length:Int)-1)=l[l.length-1]'(by omega):=by
  unfold tg;rw[show((l.length:Int)-1).toNat=l.length-1 by omega,List.getD_eq_getElem?_getD,List.getElem?_eq_getElem (by omega)];rfl
 rw[e0,e1]
 have hp:=List.pairwise_iff_getElem.1 h
 constructor
 ·by_cases c:i=0
  ·subst c;exact Int.le_refl _
  ·exact Int.le_of_lt (hp 0 i (by omega) hi (by omega))
 ·by_cases c:i=l.length-1
  ·subst c;exact Int.le_refl _
  ·exact Int.le_of_lt (hp i (l.length-1) hi (by omega) (by omega))
theorem tg0_mem{l:List Int}(h:l≠[]):tg l 0∈l:=by
 cases l with
 | nil=>exact absurd rfl h
 | cons a l=>exact List.mem_cons_self
theorem tgl_mem{l:List Int}(h:l≠[]):tg l ((l.length:Int)-1)∈l:=by
 have hl:0<l.length:=List.length_pos_iff.2 h
 unfold tg
 rw[show((l.length:Int)-1).toNat=l.length-1 by omega,List.getD_eq_getElem?_getD,List.getElem?_eq_getElem (by omega)]
 exact List.getElem_mem _
theorem tg_sub{l:List Int}{d i:Int}(h:i.toNat<l.length):tg (l.map (· - d)) i=tg l i-d:=by
 unfold tg
 simp[List.getD_eq_getElem?_getD,List.getElem?_eq_getElem h]
theorem devR_sub{l:List Int}{d:Int}(h:l≠[]):devR (l.map (· - d))=⟨tg l 0-d,tg l ((l.length:Int)-1)-d⟩:=by
 have hl:0<l.length:=List.length_pos_iff.2 h
 unfold devR
 rw[List.length_map,tg_sub (by simpa using hl),tg_sub (by omega)]
theorem span_oneV{sl lo hi:Int}{rds:List Rd}(h:oneV sl lo hi rds≠[]):spanL (fun t=>tg t ((0:Nat):Int)) (truthsL ⟨sl,[⟨lo,hi⟩],rds⟩)=devR (oneV sl lo hi rds):=by
 rw[truths_one]
 have hA:=oneV_asc sl lo hi rds
 generalize oneV sl lo hi rds=V at h hA
 obtain⟨h1,⟨a,ha,ha2⟩,⟨b,hb,hb2⟩⟩:=spanL_spec (num:=fun t=>tg t ((0:Nat):Int)) (l:=V.map fun v=>[v,0,0]) (by simpa using h)
 obtain⟨v,hv,rfl⟩:=List.mem_map.1 ha
 obtain⟨w,hw,rfl⟩:=List.mem_map.1 hb
 have g1:=h1 _ (List.mem_map.2 ⟨_,tg0_mem h,rfl⟩)
 have g2:=h1 _ (List.mem_map.2 ⟨_,tgl_mem h,rfl⟩)
 have k1:=asc_tg hA hv
 have k2:=asc_tg hA hw
 have t0:∀v:Int,tg [v,0,0] ((0:Nat):Int)=v:=fun v=>rfl
 simp only[t0] at ha2 hb2 g1 g2
 generalize spanL _ _=sp at *
 obtain⟨s1,s2⟩:=sp
 simp only at *
 unfold devR
 rw[show s1=tg V 0 by omega,show s2=tg V ((V.length:Int)-1) by omega]
theorem tones_one{sl lo hi:Int}{rds:List Rd}(hk:ck ⟨sl,[⟨lo,hi⟩],rds⟩= 0)(h:oneV sl lo hi rds≠[]):tonesL ⟨sl,[⟨lo,hi⟩],rds⟩=([devR (oneV sl lo hi rds)],0):=by
 have e:knownL ⟨sl,[⟨lo,hi⟩],rds⟩=(truthsL ⟨sl,[⟨lo,hi⟩],rds⟩,0):=by
  unfold knownL;rw[if_neg (by simp[hk]),if_neg (oneV_nil h)]
 unfold tonesL
 rw[e]
 show(([spanL (fun t=>tg t ((0:Nat):Int)) (truthsL ⟨sl,[⟨lo,hi⟩],rds⟩)]:List Rng),(0:Int))=_
 rw[span_oneV h]
theorem oneB_conv{sl:Int}{rds:List Rd}(hr:∀r∈rds,ckR r 1=0){a b y:Int}(ha:oneB sl rds a=true)(hb:oneB sl rds b=true)(h:a≤y∧y≤b):oneB sl rds y=true:=by
 unfold oneB at *
 rw[List.all_eq_true] at *
 intro r hm
 have h0:=hr r hm
 have h1:=ha r hm
 have h2:=hb r hm
 have hkk:r.kind=1∧r.a=0∧r.b=0∧0≤r.sec:=by
  unfold ckR at h0
  repeat' split at h0
  all_goals first | omega | cases h0
 obtain⟨k1,k2,k3,k4⟩:=hkk
 unfold isR at h1 h2⊢
 rw[if_pos k1] at h1 h2⊢
 rw[k2] at h1 h2⊢
 have t0:∀v:Int,tg [v,0,0] 0=v:=fun v=>rfl
 simp only[t0,decide_eq_true_eq] at h1 h2⊢
 have m1:a*r.sec≤y*r.sec:=Int.mul_le_mul_of_nonneg_right h.1 k4
 have m2:y*r.sec≤b*r.sec:=Int.mul_le_mul_of_nonneg_right h.2 k4
 omega
theorem ck_rds{sl lo hi:Int}{rds:List Rd}(hk:ck ⟨sl,[⟨lo,hi⟩],rds⟩= 0):∀r∈rds,ckR r 1=0:=by
 refine firstE_all (f:=fun r=>ckR r (1:Nat)) ?_
 simp only[ck,List.length_cons,List.length_nil] at hk
 grind
theorem oneV_conv{sl lo hi:Int}{rds:List Rd}(hk:ck ⟨sl,[⟨lo,hi⟩],rds⟩= 0){y:Int}(hn:oneV sl lo hi rds≠[])(h:(devR (oneV sl lo hi rds)).lo≤y∧y≤(devR (oneV sl lo hi rds)).hi):y∈oneV sl lo hi rds:=by
 have m1:=oneV_mem.1 (tg0_mem hn)
 have m2:=oneV_mem.1 (tgl_mem hn)
 unfold devR at h
 exact oneV_mem.2 ⟨by simp only at h;omega,oneB_conv (ck_rds hk) m1.2 m2.2 h⟩
theorem Ros.Good.one{r:Ros}(h:r.Good){x:Tn}(hx:x∈r.ents):∃sl lo hi rds,x.ear=⟨sl,[⟨lo,hi⟩],rds⟩∧ck ⟨sl,[⟨lo,hi⟩],rds⟩= 0∧oneV sl lo hi rds≠[]∧chkE x r.hands=((oneV sl lo hi rds).map (· - x.due),0):=by
 obtain⟨h1,h2,h3,h4,h5,h6⟩:=h.ent x hx
 obtain⟨_,hw,hn,_⟩:=askL_ok1 h6
 have hl:x.ear.tones.length=1:=by
  unfold oneE at hw
  split at hw
  ·omega
  ·cases hw
 obtain⟨sl,ts,rds⟩:∃sl ts rds,x.ear=⟨sl,ts,rds⟩:=⟨_,_,_,rfl⟩
 obtain⟨rds,he⟩:=rds
 rw[he] at hl hn h4
 match ts,hl with
 | [⟨lo,hi⟩],_=>
  have hn2:oneV sl lo hi rds≠[]:=by rw[truths_one] at hn;simpa using hn
  exact⟨sl,lo,hi,rds,he,h4,hn2,chkE_oneV h1 (by omega) h3 he (by rw[he];exact h4) hn2⟩
theorem idx_tg{l:List Int}{i:Int}(h:0≤i∧i<l.length):idx (l.map (AV.int .i64)) i=some (.int .i64 (tg l i)):=by
 obtain⟨n,rfl⟩:=Int.eq_ofNat_of_zero_le h.1
 have hn:n<l.length:=by omega
 rw[idx_nat hn]
 simp[tg,List.getD_eq_getElem?_getD,List.getElem?_eq_getElem hn]
theorem rEnt_eq{x:Tn}{h:Int}(hh:1≤h∧h≤4):rEnt x h=(chkE x h).2:=by
 have hw:IntKind.i64.wrap (h-1)=h-1:=wrap64 (by omega) (by omega)
 unfold rEnt chkE
 rw[hw]
 by_cases c1:0≤x.day∧x.day≤60
 ·have nc1:¬¬(0≤x.day∧x.day≤60):=fun c=>c c1
  rw[if_neg nc1,if_neg nc1]
  by_cases c2: -1≤x.hand∧x.hand≤h-1
  ·have nc2:¬¬(-1≤x.hand∧x.hand≤h-1):=fun c=>c c2
   rw[if_neg nc2,if_neg nc2]
   by_cases c3:1≤x.due∧x.due≤100000
   ·have nc3:¬¬(1≤x.due∧x.due≤100000):=fun c=>c c3
    rw[if_neg nc3,if_neg nc3]
    by_cases c4:ck x.ear=0
    ·have nc4:¬(ck x.ear≠0):=fun c=>c c4
     rw[if_neg nc4,if_neg nc4]
     by_cases c5:1<x.ear.tones.length
     ·rw[if_pos c5,if_pos c5]
     ·rw[if_neg c5,if_neg c5]
      have hl:x.ear.tones.length≠0:=fun e=>by simp only[ck] at c4;rw[if_pos e] at c4;split at c4<;> omega
      have h0:oneE x.ear 0=0:=by unfold oneE;rw[if_pos (by omega)]
      have ha:askL x.ear (oneE x.ear 0)=knownL x.ear:=by
       unfold askL;rw[if_neg (by simp[c4]),if_neg (by simp[h0])]
      unfold tonesL valuesL
      rw[ha]
      by_cases hk:(knownL x.ear).2=0
      ·rw[if_pos hk,if_pos hk]
      ·rw[if_neg hk,if_neg hk]
    ·rw[if_pos c4,if_pos c4]
   ·rw[if_pos c3,if_pos c3]
  ·rw[if_pos c2,if_pos c2]
 ·rw[if_pos c1,if_pos c1]
theorem firstE_NZ{α:Type}{f g:α→Int}:∀{l:List α},(∀x∈l,f x=g x)→firstE f l=firstNZ (l.map g)
 | [],_=>rfl
 | x::l,h=>by
  show(if f x=0 then firstE f l else f x)=if g x=0 then firstNZ (l.map g) else g x
  rw[h x (by simp),firstE_NZ fun y hy=>h y (by simp[hy])]
theorem rosR_eq(r:Ros):rosR r=rosE r:=by
 unfold rosR rosE
 by_cases h:headE r=0
 ·rw[if_neg (fun c=>c h),if_neg (fun c=>c h)]
  have hh:=(r.head_of h).hands
  exact firstE_NZ fun x _=>rEnt_eq hh
 ·rw[if_pos h,if_pos h]
end Go.Proofs
namespace Go.Proofs
open Go Go.Mu Go.Ins
variable {S:MC Tryz.prog}
theorem Ros.Good.devR{r:Ros}(h:r.Good){x:Tn}(hx:x∈r.ents):∃a b,tonesL x.ear=([⟨a,b⟩],0)∧Go.Proofs.devR (chkE x r.hands).1=⟨a-x.due,b-x.due⟩∧(1≤a∧a≤100000)∧(1≤b∧b≤100000):=by
 obtain⟨sl,lo,hi,rds,h1,h2,h3,h4⟩:=h.one hx
 have ht:=(okE_of_ck h2).tone ⟨lo,hi⟩ (by simp)
 have m1:=oneV_mem.1 (tg0_mem h3)
 have m2:=oneV_mem.1 (tgl_mem h3)
 simp only at ht
 refine⟨tg (oneV sl lo hi rds) 0,tg (oneV sl lo hi rds) ((oneV sl lo hi rds).length-1),?_,?_,by omega,by omega⟩
 ·rw[h1,tones_one h2 h3];rfl
 ·rw[h4,devR_sub h3]
theorem rdeviation_p(r:Ros)(h:r.Good)(x:Tn)(hx:x∈r.ents)(h1:x.ear.tones.length≤1000000)(h2:x.ear.rds.length≤1000000):PureV S 114 [x.av] (devR (chkE x r.hands).1).av:=by
 obtain⟨a,b,e1,e2,e3,e4⟩:=h.devR hx
 have hd:=(h.ent x hx).2.2.1
 rw[e2]
 refine PvE (Tryz.envOK (S:=S) 26 Tryz.ord114 fs420 fs420_ok) (Rng.plain _) Tryz.kp114 Tryz.func114 rfl ?_
 intro σ
 obtain⟨day,hand,due,ear⟩:=x
 obtain⟨sl,ts,rs⟩:=ear
 simp only[Tn.av,Tn.cells] at h1 h2 e1 hd⊢
 have hwa:IntKind.i64.wrap (a-due)=a-due:=wrap64 (by omega) (by omega)
 have hwb:IntKind.i64.wrap (b-due)=b-due:=wrap64 (by omega) (by omega)
 clear e2 hx
 simp -implicitDefEqProofs (maxSteps:=9^9) (disch:=omega) only[go_sem,simprocAttr,e1,idx0,hwa,hwb,Rng.av]
theorem rdeviations_p(r:Ros)(h:r.Good)(hf:∀x∈r.ents,x.ear.tones.length≤1000000∧x.ear.rds.length≤1000000):PureV S 104 [r.av] (.list .no 2 (((entsL r).map devR).map Rng.av)):=by
 have hp:=fun x hx=>rdeviation_p (S:=S) r h x hx (hf x hx).1 (hf x hx).2
 have hel:=h.entl
 refine PvE (Tryz.envOK (S:=S) 22 (fun _=>([],[])) fs420 fs420_ok) (.map fun x _=>Rng.plain x) Tryz.kp104 Tryz.func104 rfl ?_
 intro σ
 have hm:(entsL r).map devR=r.ents.map fun x=>devR (chkE x r.hands).1:=by simp[entsL]
 rw[hm]
 obtain⟨hands,skill,mn,mx,sets,ents⟩:=r
 simp only[Ros.av] at hp hf hel⊢
 simp -implicitDefEqProofs (maxSteps:=9^9) (disch:=omega) only[go_sem,simprocAttr]
 refine ARun.ghost 3 2 (sz0:=0) rfl (by simp[lookA]) ?_
 simp only[ins,↓reduceIte,List.append_assoc,List.cons_append,List.nil_append,List.length_append,List.length_cons,List.length_nil,Nat.zero_add,Nat.reduceEqDiff]
 refine ARun.forS (Tryz.envOK (S:=S) 22 (fun _=>([],[])) fs420 fs420_ok) ents.length (fun _=>True) (fun i=>[(3,.list (.own (σ.length+1)) 2 (((ents.take i).map fun x=>devR (chkE x hands).1).map Rng.av)),(4,.int .i64 i)]) (fun i j=>σ++(.cells [.int .i64 hands,.int .i64 skill,.int .i64 mn,.int .i64 mx,.list .no 2 (sets.map Sg.av),.list .no 6 (ents.map Tn.av)]:: .tail i 2::j)) [] (by kernel_rfl) (by simp) (by simp[upd,ins,subF,lookA]) trivial ?_ ?_
 ·intro i j hi _ ih
  have hidx:idx (ents.map Tn.av) (i:Int)=some (Tn.av ents[i]):=idx_nat hi
  have hpi:=hp _ (List.getElem_mem hi)
  have hst:(ents.take (i+1)).map (fun x=>devR (chkE x hands).1)=(ents.take i).map (fun x=>devR (chkE x hands).1)++[devR (chkE ents[i] hands).1]:=by rw[List.take_succ_eq_append_getElem hi,List.map_append];rfl
  rw[hst] at ih
  have hbl:((ents.take i).map fun x=>devR (chkE x hands).1).length=i:=by rw[List.length_map,List.length_take];omega
  have hwi:IntKind.i64.wrap ((i:Int)+1)=((i+1:Nat):Int):=by rw[wrap64 (by omega) (by omega)];rfl
  have hcl:∀x:Rng,x.av.cells.length=2:=fun _=>rfl
  have hfl:∀x:Rng,x.av.flat=true:=fun _=>rfl
  generalize devR (chkE ents[i] hands).1=d at *
  generalize ents[i]=x at *
  generalize (ents.take i).map (fun x=>devR (chkE x hands).1)=B at *
  simp only[Tn.av,Tn.cells] at hidx hpi
  simp -implicitDefEqProofs (maxSteps:=9^9) (disch:=omega) only[go_sem,simprocAttr,hidx]
  refine hpi _ _ ?_
  simp -implicitDefEqProofs (maxSteps:=9^9) (disch:=omega) only[go_sem,simprocAttr,hidx,hwi,hbl,hcl,hfl]
  exact(ih trivial j).castS (by simp) (by simp[upd,ins,subF,lookA])
 ·intro j _
  rw[List.take_length]
  simp -implicitDefEqProofs (maxSteps:=9^9) (disch:=omega) only[go_sem,simprocAttr]
theorem rsince_p(r:Ros)(hl:r.sets.length≤4)(h d:Int)(hd:0≤d∧d≤60):PureV S 100 [r.av,.int .i64 h,.int .i64 d] (.int .i64 (fromL r.sets h d)):=by
 refine PvE (Tryz.envOK (S:=S) 43 (fun _=>([],[])) fs420 fs420_ok) (.int) Tryz.kp100 Tryz.func100 rfl ?_
 intro σ
 obtain⟨hands,skill,mn,mx,sets,ents⟩:=r
 simp only[Ros.av] at hl⊢
 simp -implicitDefEqProofs (maxSteps:=9^9) (disch:=omega) only[go_sem,simprocAttr]
 refine ARun.forS (Tryz.envOK (S:=S) 43 (fun _=>([],[])) fs420 fs420_ok) sets.length (fun _=>True) (fun i=>[(7,.int .i64 ((sets.take i).foldl (setF h d) 0)),(8,.int .i64 i)]) (fun _ _=>σ++[.cells [.int .i64 hands,.int .i64 skill,.int .i64 mn,.int .i64 mx,.list .no 2 (sets.map Sg.av),.list .no 6 (ents.map Tn.av)]]) [] (by kernel_rfl) (by simp) (by simp[upd,ins,subF,lookA]) trivial ?_ ?_
 ·intro i j hi _ ih
  rw[take_foldl hi] at ih
  have hidx:idx (sets.map Sg.av) (i:Int)=some (Sg.av sets[i]):=idx_nat hi
  have hwi:IntKind.i64.wrap ((i:Int)+1)=((i+1:Nat):Int):=by rw[wrap64 (by omega) (by omega)];rfl
  obtain⟨f1,f2⟩:=@from_in h d (sets.take i) 0 (Int.le_refl 0) hd.1
  generalize (sets.take i).foldl (setF h d) 0=m at *
  generalize sets[i]=s at *
  simp only[Sg.av] at hidx
  by_cases p1:s.hand=h
  ·by_cases p2:s.day≤d
   ·have p1':(s.hand=h)=True:=eq_true p1
    have p2':(s.day≤d)=True:=eq_true p2
    simp -implicitDefEqProofs (maxSteps:=9^9) (disch:=omega) only[go_sem,simprocAttr,hidx,p1',p2',hwi]
    exact(ih trivial []).castS rfl (by simp[upd,ins,subF,lookA,setF,p1,p2])
   ·have p1':(s.hand=h)=True:=eq_true p1
    have p2':(s.day≤d)=False:=eq_false p2
    simp -implicitDefEqProofs (maxSteps:=9^9) (disch:=omega) only[go_sem,simprocAttr,hidx,p1',p2',hwi]
    exact(ih trivial []).castS rfl (by simp[upd,ins,subF,lookA,setF,p1,p2])
  ·have p1':(s.hand=h)=False:=eq_false p1
   simp -implicitDefEqProofs (maxSteps:=9^9) (disch:=omega) only[go_sem,simprocAttr,hidx,p1',hwi]
   exact(ih trivial []).castS rfl (by simp[upd,ins,subF,lookA,setF,p1])
 ·intro j _
  rw[List.take_length]
  simp -implicitDefEqProofs (maxSteps:=9^9) (disch:=omega) only[go_sem,simprocAttr]
  rfl
theorem roff_p(r:Ros)(hl:r.sets.length≤4)(h d n:Int)(hd:0≤d∧d≤60)(hn: -5≤n∧n≤5):PureV S 145 [r.av,.int .i64 h,.int .i64 d,.int .i64 n] (.int .i64 (n*(d-fromL r.sets h d))):=by
 have hs:=rsince_p (S:=S) r hl h d hd
 have hf:=@fromL_in r.sets h d hd.1
 have hb: -300≤n*(d-fromL r.sets h d)∧n*(d-fromL r.sets h d)≤300:=by
  generalize fromL r.sets h d=a at *
  have h3:0≤d-a∧d-a≤60:=by omega
  generalize d-a=b at *
  rcases(by omega:n= -5∨n= -4∨n= -3∨n= -2∨n= -1∨n=0∨n=1∨n=2∨n=3∨n=4∨n=5) with rfl | rfl | rfl | rfl | rfl | rfl | rfl | rfl | rfl | rfl | rfl<;> omega
 refine PvE (Tryz.envOK (S:=S) 17 (fun _=>([],[])) fs420 fs420_ok) (.int) Tryz.kp145 Tryz.func145 rfl ?_
 intro σ
 obtain⟨hands,skill,mn,mx,sets,ents⟩:=r
 simp only[Ros.av] at hs hf hb⊢
 generalize fromL sets h d=a at *
 have hw1:IntKind.i64.wrap (d-a)=d-a:=wrap64 (by omega) (by omega)
 have hw2:IntKind.i64.wrap (n*(d-a))=n*(d-a):=wrap64 (by omega) (by omega)
 clear hb
 simp -implicitDefEqProofs (maxSteps:=9^9) (disch:=omega) only[go_sem,simprocAttr]
 refine hs _ _ ?_
 simp -implicitDefEqProofs (maxSteps:=9^9) (disch:=omega) only[go_sem,simprocAttr,hw1,hw2]
def rTun(r:Ros)(t:Tn)(x:Rng)(h n:Int):Bool:=decide (t.hand<0∨t.hand=h)&&decide (x.lo-r.skill≤n*(t.day-fromL r.sets h t.day)∧n*(t.day-fromL r.sets h t.day)≤x.hi+r.skill)
theorem rtunes_p(r:Ros)(hl:r.sets.length≤4)(hsk:0≤r.skill∧r.skill≤9)(t:Tn)(hd:0≤t.day∧t.day≤60)(x:Rng)(hx:(-2000000≤x.lo∧x.lo≤2000000)∧ -2000000≤x.hi∧x.hi≤2000000)(h n:Int)(hn: -5≤n∧n≤5) :
  PureV S 113 [r.av,t.av,x.av,.int .i64 h,.int .i64 n] (.bool (rTun r t x h n)):=by
 have ho:=roff_p (S:=S) r hl h t.day n hd hn
 refine PvE (Tryz.envOK (S:=S) 41 (fun _=>([],[])) fs420 fs420_ok) (.bool) Tryz.kp113 Tryz.func113 rfl ?_
 intro σ
 unfold rTun
 obtain⟨hands,skill,mn,mx,sets,ents⟩:=r
 obtain⟨day,hand,due,ear⟩:=t
 obtain⟨sl,ts,rs⟩:=ear
 simp only[Ros.av,Tn.av,Tn.cells,Rng.av] at ho hsk hd⊢
 generalize n*(day-fromL sets h day)=o at *
 have hw1:IntKind.i64.wrap (x.lo-skill)=x.lo-skill:=wrap64 (by omega) (by omega)
 have hw2:IntKind.i64.wrap (x.hi+skill)=x.hi+skill:=wrap64 (by omega) (by omega)
 clear hx hl
 simp -implicitDefEqProofs (maxSteps:=9^9) (disch:=omega) only[go_sem,simprocAttr]
 refine ho _ _ ?_
 by_cases c1:hand<0
 ·have c1':(hand<0)=True:=eq_true c1
  simp -implicitDefEqProofs (maxSteps:=9^9) (disch:=omega) only[go_sem,simprocAttr,c1',hw1,hw2]
  simp[c1]
  exact fun h1 h2=>⟨h1,h2⟩
 ·have c1':(hand<0)=False:=eq_false c1
  by_cases c2:hand=h
  ·have c2':(hand=h)=True:=eq_true c2
   simp -implicitDefEqProofs (maxSteps:=9^9) (disch:=omega) only[go_sem,simprocAttr,c1',c2',hw1,hw2]
   simp[c2]
   exact fun h1 h2=>⟨h1,h2⟩
  ·have c2':(hand=h)=False:=eq_false c2
   simp -implicitDefEqProofs (maxSteps:=9^9) (disch:=omega) only[go_sem,simprocAttr,c1',c2',hw1,hw2]
/-! Rosters and entries, read out of values. -/
def decSg:AV→Option Sg
 | .agg [.int .i64 h,.int .i64 d]=>some ⟨h,d⟩
 | _=>none
theorem decSg_inv(a:AV)(x:Sg)(h:decSg a=some x):a=x.av:=by
 unfold decSg at h;split at h
 ·simp at h;subst h;rfl
 ·cases h
theorem decSg_av(x:Sg):decSg x.av=some x:=rfl
def decTn0:AV→Option Tn
 | .agg [.int .i64 d,.int .i64 h,.int .i64 u,.int .i64 s,.list .no 2 xs,.list .no 6 ys]=>(decs decRng xs).bind fun x=>(decs decRd ys).bind fun y=>some ⟨d,h,u,⟨s,x,y⟩⟩
 | _=>none
theorem decTn0_inv(a:AV)(x:Tn)(h:decTn0 a=some x):a=x.av:=by
 unfold decTn0 at h;split at h
 ·obtain⟨x1,h1,h⟩:=Option.bind_eq_some_iff.1 h
  obtain⟨x2,h2,h⟩:=Option.bind_eq_some_iff.1 h
  simp at h;subst h
  rw[decs_inv decRng_inv h1,decs_inv decRd_inv h2];rfl
 ·cases h
theorem decTn0_av(x:Tn):decTn0 x.av=some x:=by
 obtain⟨d,h,u,s,ts,rs⟩:=x
 simp only[Tn.av,Tn.cells,decTn0,decs_map decRng_av,decs_map decRd_av,Option.bind_some]
def decTn:AV→Option Tn
 | .agg [.int .i64 d,.int .i64 h,.int .i64 u,.int .i64 s,a,b]=>(decL 2 decRng a).bind fun x=>(decL 6 decRd b).bind fun y=>some ⟨d,h,u,⟨s,x,y⟩⟩
 | _=>none
theorem decTn_inv(a:AV)(x:Tn)(h:decTn a=some x):wk a x.av:=by
 unfold decTn at h;split at h
 ·obtain⟨x1,h1,h⟩:=Option.bind_eq_some_iff.1 h
  obtain⟨x2,h2,h⟩:=Option.bind_eq_some_iff.1 h
  simp at h;subst h
  exact⟨rfl,rfl,rfl,rfl,decL_inv decRng_inv h1,decL_inv decRd_inv h2,trivial⟩
 ·cases h
def decRos:AV→Option Ros
 | .agg [.int .i64 h,.int .i64 s,.int .i64 m,.int .i64 n,a,b]=>(decL 2 decSg a).bind fun x=>(decL 6 decTn0 b).bind fun y=>some ⟨h,s,m,n,x,y⟩
 | _=>none
theorem decRos_inv(a:AV)(x:Ros)(h:decRos a=some x):wk a x.av:=by
 unfold decRos at h;split at h
 ·obtain⟨x1,h1,h⟩:=Option.bind_eq_some_iff.1 h
  obtain⟨x2,h2,h⟩:=Option.bind_eq_some_iff.1 h
  simp at h;subst h
  exact⟨rfl,rfl,rfl,rfl,decL_inv decSg_inv h1,decL_inv decTn0_inv h2,trivial⟩
 ·cases h
def tTn:Ty Tn:=⟨decTn,Tn.av,fun{a x} h=>decTn_inv a x h⟩
def tRos:Ty Ros:=⟨decRos,Ros.av,fun{a x} h=>decRos_inv a x h⟩
theorem tTn_dec{a:AV}:tTn.dec a=decTn a:=rfl
theorem tRos_dec{a:AV}:tRos.dec a=decRos a:=rfl
theorem decL_sg{t:Tok}{l:List Sg}:decL 2 decSg (.list t 2 (l.map Sg.av))=some l:=decL_self decSg_av
theorem decL_tn{t:Tok}{l:List Tn}:decL 6 decTn0 (.list t 6 (l.map Tn.av))=some l:=decL_self decTn0_av
def spec5{α β γ δ ε:Type}(A:Ty α)(B:Ty β)(C:Ty γ)(D:Ty δ)(E:Ty ε)(f:α→β→γ→δ→ε→Option AV):List AV→Option AV
 | [a,b,c,d,e]=>(A.dec a).bind fun x=>(B.dec b).bind fun y=>(C.dec c).bind fun z=>(D.dec d).bind fun u=>(E.dec e).bind fun v=>f x y z u v
 | _=>none
theorem spec5_ok{α β γ δ ε:Type}{P:Program}{S:MC P}{n:FuncId}{A:Ty α}{B:Ty β}{C:Ty γ}{D:Ty δ}{E:Ty ε}{f:α→β→γ→δ→ε→Option AV}(h:∀x y z u v w,f x y z u v=some w→PureV S n [A.av x,B.av y,C.av z,D.av u,E.av v] w):∀xs w,spec5 A B C D E f xs=some w→PureV S n xs w:=by
 intro xs w e
 unfold spec5 at e
 split at e
 ·obtain⟨x,h1,e⟩:=Option.bind_eq_some_iff.1 e
  obtain⟨y,h2,e⟩:=Option.bind_eq_some_iff.1 e
  obtain⟨z,h3,e⟩:=Option.bind_eq_some_iff.1 e
  obtain⟨u,h4,e⟩:=Option.bind_eq_some_iff.1 e
  obtain⟨v,h5,e⟩:=Option.bind_eq_some_iff.1 e
  exact PureV.weaken (l':=[A.av x,B.av y,C.av z,D.av u,E.av v]) ⟨A.inv h1,B.inv h2,C.inv h3,D.inv h4,E.inv h5,trivial⟩ (h x y z u v w e)
 ·cases e
attribute [go_sem] tTn_dec tRos_dec decTn decRos decL_sg decL_tn spec5
def TunOK(r:Ros)(t:Tn)(x:Rng)(n:Int):Prop:=(r.sets.length≤4∧(0≤r.skill∧r.skill≤9))∧(0≤t.day∧t.day≤60)∧((-2000000≤x.lo∧x.lo≤2000000)∧ -2000000≤x.hi∧x.hi≤2000000)∧ -5≤n∧n≤5
instance (r:Ros)(t:Tn)(x:Rng)(n:Int):Decidable (TunOK r t x n):=by unfold TunOK;infer_instance
def rtun_s:=spec5 tRos tTn tRng tI tI fun r t x h n=>if TunOK r t x n then some (.bool (rTun r t x h n)) else none
theorem rtun_ok:∀xs v,rtun_s xs=some v→PureV S 113 xs v:=
 spec5_ok fun r t x h n v e=>by
  have e:=someIf e
  rw[← e.2]
  exact rtunes_p r e.1.1.1 e.1.1.2 t e.1.2.1 x e.1.2.2.1 h n e.1.2.2.2
theorem rhas_p(l:List Int)(hl:l.length≤1000000)(n:Int):PureV S 153 [ints1 l,.int .i64 n] (.bool (l.contains n)):=by
 refine PvE (Tryz.envOK (S:=S) 18 (fun _=>([],[])) fs0 fs0_ok) (.bool) Tryz.kp153 Tryz.func153 rfl ?_
 intro σ
 simp only[ints1]
 simp -implicitDefEqProofs (maxSteps:=9^9) (disch:=omega) only[go_sem,simprocAttr]
 refine ARun.forS (Tryz.envOK (S:=S) 18 (fun _=>([],[])) fs0 fs0_ok) l.length (fun i=>(l.take i).contains n=false) (fun i=>[(5,.int .i64 i)]) (fun _ _=>σ) [] (by kernel_rfl) rfl (by simp[upd,ins,subF,lookA]) (by simp) ?_ ?_
 ·intro i j hi hp ih
  have hidx:idx (l.map (AV.int .i64)) (i:Int)=some (.int .i64 l[i]):=idx_nat hi
  have hwi:IntKind.i64.wrap ((i:Int)+1)=((i+1:Nat):Int):=by rw[wrap64 (by omega) (by omega)];rfl
  have hst:(l.take (i+1)).contains n=((l.take i).contains n||(n==l[i])):=by
   rw[List.take_succ_eq_append_getElem hi,Bool.eq_iff_iff,Bool.or_eq_true,List.contains_iff_mem,List.contains_iff_mem,beq_iff_eq,List.mem_append,List.mem_singleton]
  rw[hst,hp,Bool.false_or] at ih
  have hmem:l[i]=n→l.contains n=true:=fun e=>by rw[← e];simp
  generalize l[i]=m at *
  by_cases c:m=n
  ·have c':(m=n)=True:=eq_true c
   simp -implicitDefEqProofs (maxSteps:=9^9) (disch:=omega) only[go_sem,simprocAttr,hidx,c']
   simpa using hmem c
  ·have c':(m=n)=False:=eq_false c
   simp -implicitDefEqProofs (maxSteps:=9^9) (disch:=omega) only[go_sem,simprocAttr,hidx,c',hwi]
   exact(ih (by simpa using fun e=>c e.symm) []).castS rfl (by simp[upd,ins,subF,lookA])
 ·intro j hp
  rw[List.take_length] at hp
  rw[hp]
  simp -implicitDefEqProofs (maxSteps:=9^9) (disch:=omega) only[go_sem,simprocAttr]
def fs421(f:FuncId)(xs:List AV):Option AV:=if f=113 then rtun_s xs else fs420 f xs
theorem fs421_ok{S:MC Tryz.prog}:∀f xs v,fs421 f xs=some v→PureV S f xs v:=by
 intro f xs v h
 unfold fs421 at h
 split at h
 ·rename_i e;subst e;exact rtun_ok _ _ h
 exact fs420_ok _ _ _ h
attribute [go_sem] fs421 rtun_s
def rEnt1(r:Ros)(t:Tn)(d:Rng)(x:List Int):Bool:=(List.range r.hands.toNat).any fun(h:Nat)=>rTun r t d h (tg x h)
def rExpl(r:Ros)(D:List Rng)(x:List Int):Bool:=(List.range r.ents.length).all fun i=>rEnt1 r (r.ents.getD i default) (D.getD i default) x
theorem rexplained_p(r:Ros)(hr:r.Head)(hdy:∀t∈r.ents,0≤t.day∧t.day≤60)(D:List Rng)(hD:D.length=r.ents.length)(hDb:∀d∈D,(-2000000≤d.lo∧d.lo≤2000000)∧ -2000000≤d.hi∧d.hi≤2000000)(x:List Int)(hx:(x.length:Int)=r.hands)(hxb:∀n∈x, -5≤n∧n≤5) :
  PureV S 152 [r.av,.list .no 2 (D.map Rng.av),ints1 x] (.bool (rExpl r D x)):=by
 refine PvE (Tryz.envOK (S:=S) 44 Tryz.ord152 fs421 fs421_ok) (.bool) Tryz.kp152 Tryz.func152 rfl ?_
 intro σ
 have hh:=hr.hands
 have hsk:=hr.skill
 have hsl:=hr.setl
 have hel:=hr.entl
 obtain⟨hands,skill,mn,mx,sets,ents⟩:=r
 simp only[Ros.av,ints1] at hdy hD hx hh hsk hsl hel⊢
 simp -implicitDefEqProofs (maxSteps:=9^9) (disch:=omega) only[go_sem,simprocAttr]
 refine ARun.forS (Tryz.envOK (S:=S) 44 Tryz.ord152 fs421 fs421_ok) ents.length (fun i=>((List.range i).all fun i=>rEnt1 ⟨hands,skill,mn,mx,sets,ents⟩ (ents.getD i default) (D.getD i default) x)=true) (fun i=>[(7,.int .i64 i)]) (fun _ _=>σ++[.cells [.int .i64 hands,.int .i64 skill,.int .i64 mn,.int .i64 mx,.list .no 2 (sets.map Sg.av),.list .no 6 (ents.map Tn.av)]]) [] (by kernel_rfl) (by simp) (by simp[upd,ins,subF,lookA]) (by simp) ?_ ?_
 ·intro i j hi hp ih
  have hidx:idx (ents.map Tn.av) (i:Int)=some (Tn.av ents[i]):=idx_nat hi
  have hidd:idx (D.map Rng.av) (i:Int)=some (Rng.av (D[i]'(by omega))):=idx_nat (by omega)
  have hwi:IntKind.i64.wrap ((i:Int)+1)=((i+1:Nat):Int):=by rw[wrap64 (by omega) (by omega)];rfl
  have hti:=hdy _ (List.getElem_mem hi)
  have hdi:=hDb _ (List.getElem_mem (l:=D) (n:=i) (by omega))
  have hge:ents.getD i default=ents[i]:=by simp[List.getD,List.getElem?_eq_getElem hi]
  have hgd:D.getD i default=D[i]'(by omega):=by simp[List.getD,List.getElem?_eq_getElem (show i<D.length by omega)]
  have hst:((List.range (i+1)).all fun i=>rEnt1 ⟨hands,skill,mn,mx,sets,ents⟩ (ents.getD i default) (D.getD i default) x)=rEnt1 ⟨hands,skill,mn,mx,sets,ents⟩ (ents.getD i default) (D.getD i default) x:=by
   rw[List.range_succ,List.all_append,hp];simp
  have hall:rEnt1 ⟨hands,skill,mn,mx,sets,ents⟩ (ents.getD i default) (D.getD i default) x=false→rExpl ⟨hands,skill,mn,mx,sets,ents⟩ D x=false:=fun h=>by
   unfold rExpl
   rw[List.all_eq_false]
   exact⟨i,List.mem_range.2 hi,by simpa using h⟩
  rw[hst,hge,hgd] at ih
  rw[hge,hgd] at hall
  clear hst hge hgd
  generalize ents[i]=t at *
  generalize D[i]'(by omega)=d at *
  obtain⟨day,hand,due,ear⟩:=t
  obtain⟨sl,ts,rs⟩:=ear
  simp only[Tn.av,Tn.cells] at hidx hti
  simp only[Rng.av] at hidd
  simp -implicitDefEqProofs (maxSteps:=9^9) (disch:=omega) only[go_sem,simprocAttr]
  refine ARun.forS (Tryz.envOK (S:=S) 44 Tryz.ord152 fs421 fs421_ok) hands.toNat (fun _=>True) (fun h=>[(8,.bool ((List.range h).any fun(h:Nat)=>rTun ⟨hands,skill,mn,mx,sets,ents⟩ ⟨day,hand,due,⟨sl,ts,rs⟩⟩ d h (tg x h))),(9,.int .i64 h)]) (fun _ _=>σ++[.cells [.int .i64 hands,.int .i64 skill,.int .i64 mn,.int .i64 mx,.list .no 2 (sets.map Sg.av),.list .no 6 (ents.map Tn.av)]]) [] (by kernel_rfl) (by simp) (by simp[upd,ins,subF,lookA]) trivial ?_ ?_
  ·intro h j2 hh2 _ ih2
   have hix:idx (x.map (AV.int .i64)) (h:Int)=some (.int .i64 (tg x h)):=idx_tg ⟨by omega,by omega⟩
   have hxh: -5≤tg x h∧tg x h≤5:=by
    have:h<x.length:=by omega
    have e:tg x h=x[h]:=by simp[tg,List.getD_eq_getElem?_getD,List.getElem?_eq_getElem this]
    rw[e];exact hxb _ (List.getElem_mem this)
   have hwh:IntKind.i64.wrap ((h:Int)+1)=((h+1:Nat):Int):=by rw[wrap64 (by omega) (by omega)];rfl
   have hlt:((h:Int)<hands)=True:=eq_true (by omega)
   have hok:TunOK ⟨hands,skill,mn,mx,sets,ents⟩ ⟨day,hand,due,⟨sl,ts,rs⟩⟩ ⟨d.lo,d.hi⟩ (tg x h):=⟨⟨hsl,hsk⟩,hti,hdi,hxh⟩
   have hok':=eq_true hok
   have hst:((List.range (h+1)).any fun(h:Nat)=>rTun ⟨hands,skill,mn,mx,sets,ents⟩ ⟨day,hand,due,⟨sl,ts,rs⟩⟩ d h (tg x h))=(((List.range h).any fun(h:Nat)=>rTun ⟨hands,skill,mn,mx,sets,ents⟩ ⟨day,hand,due,⟨sl,ts,rs⟩⟩ d h (tg x h))||rTun ⟨hands,skill,mn,mx,sets,ents⟩ ⟨day,hand,due,⟨sl,ts,rs⟩⟩ ⟨d.lo,d.hi⟩ h (tg x h)):=by
    rw[List.range_succ,List.any_append];simp
   rw[hst] at ih2
   clear hst hok
   generalize ((List.range h).any fun(h:Nat)=>rTun ⟨hands,skill,mn,mx,sets,ents⟩ ⟨day,hand,due,⟨sl,ts,rs⟩⟩ d h (tg x h))=B at *
   cases B
   ·cases hT:rTun ⟨hands,skill,mn,mx,sets,ents⟩ ⟨day,hand,due,⟨sl,ts,rs⟩⟩ ⟨d.lo,d.hi⟩ h (tg x h)
    ·rw[hT] at ih2
     simp -implicitDefEqProofs (maxSteps:=9^9) (disch:=omega) only[go_sem,simprocAttr,hidx,hidd,hix,hlt,hwh,hok',hT]
     exact(ih2 trivial []).castS rfl (by simp[upd,ins,subF,lookA])
    ·rw[hT] at ih2
     simp -implicitDefEqProofs (maxSteps:=9^9) (disch:=omega) only[go_sem,simprocAttr,hidx,hidd,hix,hlt,hwh,hok',hT]
     exact(ih2 trivial []).castS rfl (by simp[upd,ins,subF,lookA])
   ·simp -implicitDefEqProofs (maxSteps:=9^9) (disch:=omega) only[go_sem,simprocAttr,hidx,hidd,hix,hlt,hwh]
    exact(ih2 trivial []).castS rfl (by simp[upd,ins,subF,lookA])
  ·intro j2 _
   have hge:(((hands.toNat:Nat):Int)<hands)=False:=eq_false (by omega)
   have hE:((List.range hands.toNat).any fun(h:Nat)=>rTun ⟨hands,skill,mn,mx,sets,ents⟩ ⟨day,hand,due,⟨sl,ts,rs⟩⟩ d h (tg x h))=rEnt1 ⟨hands,skill,mn,mx,sets,ents⟩ ⟨day,hand,due,⟨sl,ts,rs⟩⟩ d x:=rfl
   rw[hE]
   generalize rEnt1 ⟨hands,skill,mn,mx,sets,ents⟩ ⟨day,hand,due,⟨sl,ts,rs⟩⟩ d x=B at *
   cases B
   ·simp -implicitDefEqProofs (maxSteps:=9^9) (disch:=omega) only[go_sem,simprocAttr,hge]
    rw[hall rfl]
   ·simp -implicitDefEqProofs (maxSteps:=9^9) (disch:=omega) only[go_sem,simprocAttr,hge,hwi]
    exact(ih rfl []).castS rfl (by simp[upd,ins,subF,lookA])
 ·intro j hp
  have hF:rExpl ⟨hands,skill,mn,mx,sets,ents⟩ D x=true:=hp
  rw[hF]
  simp -implicitDefEqProofs (maxSteps:=9^9) (disch:=omega) only[go_sem,simprocAttr]
end Go.Proofs
namespace Go.Proofs
open Go Go.Mu Go.Ins
theorem any_conv{V:List Int}(hV:V≠[])(ha:V.Pairwise (· < ·))(hc:∀y,tg V 0≤y→y≤tg V ((V.length:Int)-1)→y∈V){due o sk:Int}(hs:0≤sk) :
  ((V.map (· - due)).any fun d=>decide (-sk≤d-o∧d-o≤sk))=decide ((devR (V.map (· - due))).lo-sk≤o∧o≤(devR (V.map (· - due))).hi+sk):=by
 rw[devR_sub hV]
 have hle:=(asc_tg ha (tgl_mem hV)).1
 rw[Bool.eq_iff_iff,List.any_eq_true,decide_eq_true_eq]
 constructor
 ·rintro⟨d,hd,h⟩
  obtain⟨v,hv,rfl⟩:=List.mem_map.1 hd
  have:=asc_tg ha hv
  have h:=of_decide_eq_true h
  simp only
  omega
 ·intro h
  simp only at h
  obtain⟨y,hy1,hy2,hy3⟩:∃y,tg V 0≤y∧y≤tg V ((V.length:Int)-1)∧(-sk≤y-due-o∧y-due-o≤sk):=by
   by_cases c1:o<tg V 0-due
   ·exact⟨tg V 0,by omega,by omega,by omega⟩
   ·by_cases c2:tg V ((V.length:Int)-1)-due<o
    ·exact⟨tg V ((V.length:Int)-1),by omega,by omega,by omega⟩
    ·exact⟨o+due,by omega,by omega,by omega⟩
  exact⟨y-due,List.mem_map.2 ⟨y,hc y hy1 hy2,rfl⟩,decide_eq_true hy3⟩
theorem rTun_byB{r:Ros}(hg:r.Good){i:Nat}(hi:i<r.ents.length)(x:List Int)(h:Nat):byB r (entsL r) x i h=rTun r (r.ents.getD i default) (((entsL r).map devR).getD i default) h (tg x h):=by
 have hge:r.ents.getD i default=r.ents[i]:=by simp[List.getD,List.getElem?_eq_getElem hi]
 have hed:(entsL r).getD i []=(chkE r.ents[i] r.hands).1:=by
  simp[entsL,List.getD_eq_getElem?_getD,List.getElem?_eq_getElem hi]
 have hdd:((entsL r).map devR).getD i default=devR (chkE r.ents[i] r.hands).1:=by
  simp[entsL,List.getD_eq_getElem?_getD,List.getElem?_eq_getElem hi]
 unfold byB rTun
 rw[hge,hed,hdd]
 obtain⟨sl,lo,hi',rds,h1,h2,h3,h4⟩:=hg.one (List.getElem_mem hi)
 rw[h4]
 have hsk:=hg.skill
 by_cases c:0≤r.ents[i].hand∧r.ents[i].hand≠(h:Int)
 ·rw[if_pos c,decide_eq_false (by omega),Bool.false_and]
 ·rw[if_neg c,decide_eq_true (show r.ents[i].hand<0∨r.ents[i].hand=(h:Int) by omega),Bool.true_and]
  exact any_conv h3 (oneV_asc sl lo hi' rds) (fun y g1 g2=>oneV_conv h2 h3 ⟨g1,g2⟩) hsk.1
theorem rExpl_isB{r:Ros}(hg:r.Good)(x:List Int):rExpl r ((entsL r).map devR) x=isB r (entsL r) x:=by
 unfold rExpl isB rEnt1
 rw[Bool.eq_iff_iff,List.all_eq_true,List.all_eq_true]
 refine forall_congr' fun i=>⟨fun h hi=>?_,fun h hi=>?_⟩
 all_goals
  have hi':=List.mem_range.1 hi
  have g:=h hi
  rw[List.any_eq_true] at g⊢
  obtain⟨k,hk,e⟩:=g
  refine⟨k,hk,?_⟩
 ·rw[rTun_byB hg hi'];exact e
 ·rw[← rTun_byB hg hi'];exact e
def rRat(r:Ros)(D:List Rng)(l:List Int):Nat→List Int→List (List Int)
 | 0,b=>if rExpl r D b=true then[b] else[]
 | m+1,b=>if l.contains (b.length:Int) then(List.range (r.mx-r.mn+1).toNat).flatMap fun(k:Nat)=>if r.mn+k=0 then[] else rRat r D l m (b++[r.mn+k]) else rRat r D l m (b++[0])
theorem rRat_len{r:Ros}(hr:r.Head){D:List Rng}{l:List Int}:∀(m:Nat) (b:List Int),(rRat r D l m b).length≤11^m
 | 0,b=>by unfold rRat;split<;> simp
 | m+1,b=>by
  have hm:=hr.mn
  unfold rRat
  split
  ·have key:∀n:Nat,((List.range n).flatMap fun(k:Nat)=>if r.mn+k=0 then[] else rRat r D l m (b++[r.mn+k])).length≤n*11^m:=by
    intro n
    induction n with
    | zero=>simp
    | succ n ih=>
     rw[List.range_succ,List.flatMap_append,List.length_append,Nat.succ_mul]
     have:(([n]:List Nat).flatMap fun(k:Nat)=>if r.mn+k=0 then[] else rRat r D l m (b++[r.mn+k])).length≤11^m:=by
      rw[List.flatMap_singleton]
      split
      ·simp
      ·exact rRat_len hr m _
     omega
   have h1:=key (r.mx-r.mn+1).toNat
   have h2:(r.mx-r.mn+1).toNat≤11:=by omega
   have h3:=Nat.mul_le_mul_right (11^m) h2
   rw[Nat.pow_succ]
   omega
  ·have:=rRat_len hr m (b++[0]) (D:=D) (l:=l)
   have h4:11^m≤11^(m+1):=Nat.pow_le_pow_right (by omega) (by omega)
   omega
/-! The reference's rated is the program's truths (plain). -/
theorem setN_fold:∀(l:List Int) (s:Nat),(∀x∈l,0≤x)→∀i:Nat,(l.foldl (fun s h=>s|||2^h.toNat) s).testBit i=(s.testBit i||l.contains (i:Int))
 | [],s,_,i=>by simp
 | x::l,s,h,i=>by
  have hx:=h x (by simp)
  rw[List.foldl_cons,setN_fold l _ (fun y hy=>h y (by simp[hy])) i,Nat.testBit_or,Nat.testBit_two_pow,List.contains_cons,Bool.or_assoc]
  congr 1
  congr 1
  rw[Bool.eq_iff_iff,decide_eq_true_eq,beq_iff_eq]
  omega
theorem setN_bit{l:List Int}(h:∀x∈l,0≤x)(i:Nat):(setN l).testBit i=l.contains (i:Int):=by
 unfold setN;rw[setN_fold l 0 h i];simp
theorem isB_pad(r:Ros)(ds:List (List Int))(x:List Int):isB r ds (padR x)=isB r ds x:=by
 have e:∀i h,byB r ds (padR x) i h=byB r ds x i h:=fun i h=>by unfold byB offX;rw[padR_tg]
 unfold isB
 simp only[e]
theorem padR_snoc{b:List Int}{v:Int}(h:b.length<4):padR (b++[v])=setI (padR b) (b.length:Int) v:=by
 unfold padR setI
 rw[Int.toNat_natCast,List.set_append_right _ _ (Nat.le_refl _),Nat.sub_self,List.append_assoc,List.length_append,List.length_singleton]
 congr 1
 rw[show 4-b.length=(4- (b.length+1))+1 by omega,List.replicate_succ]
 rfl
theorem padR_zero{b:List Int}(h:b.length<4):padR (b++[0])=padR b:=by
 unfold padR
 rw[List.append_assoc,List.length_append,List.length_singleton,show 4-b.length=(4- (b.length+1))+1 by omega,List.replicate_succ]
 rfl
theorem rRat_all{r:Ros}(hg:r.Good){l:List Int}(hl:∀x∈l,0≤x):∀(m:Nat) (b:List Int),b.length+m=r.hands.toNat→(rRat r ((entsL r).map devR) l m b).map padR=(allR r (setN l) m (padR b) b.length).filter (isB r (entsL r))
 | 0,b,_=>by
  unfold rRat allR
  rw[rExpl_isB hg]
  by_cases h:isB r (entsL r) b=true
  ·rw[if_pos h,List.filter_cons,isB_pad,h];rfl
  ·rw[if_neg h,List.filter_cons,isB_pad,Bool.eq_false_iff.2 h];rfl
 | m+1,b,hm=>by
  have h4:=hg.hands
  unfold rRat allR
  rw[setN_bit hl]
  by_cases h:l.contains (b.length:Int)=true
  ·rw[if_pos h,if_pos h,List.map_flatMap,List.filter_flatMap]
   congr 1
   funext k
   by_cases h0:r.mn+(k:Int)=0
   ·rw[if_pos h0,if_pos h0];rfl
   ·rw[if_neg h0,if_neg h0,rRat_all hg hl m (b++[r.mn+k]) (by simp;omega),padR_snoc (by omega)]
    simp
  ·rw[if_neg h,if_neg h,rRat_all hg hl m (b++[0]) (by simp;omega),padR_zero (by omega)]
   simp
theorem rRat_truths{r:Ros}(hg:r.Good){l:List Int}(hl:∀x∈l,0≤x):(rRat r ((entsL r).map devR) l r.hands.toNat []).map padR=htruthsR r (entsL r) (setN l):=rRat_all hg hl r.hands.toNat [] (by simp)
/-! The reference's fewest (plain). -/
def rlM(r:Ros)(D:List Rng)(m:Nat):List (List Int):=(hcomb r.hands.toNat m 0).filter fun l=>decide (rRat r D l r.hands.toNat []≠[])
def rrM(r:Ros)(D:List Rng)(m:Nat):List (List Int):=(hcomb r.hands.toNat m 0).flatMap fun l=>rRat r D l r.hands.toNat []
def rfewF(r:Ros)(D:List Rng):Nat→Nat→List (List Int)×List (List Int)
 | 0,_=>([],[])
 | n+1,k=>if rlM r D k=[] then rfewF r D n (k+1) else(rlM r D k,rrM r D k)
def rfew(r:Ros):List (List Int)×List (List Int):=rfewF r ((entsL r).map devR) (r.hands.toNat+1) 0
theorem rfewF_none{r:Ros}{D:List Rng}:∀(n k:Nat),(∀j,k≤j→j<k+n→rlM r D j=[])→rfewF r D n k=([],[])
 | 0,_,_=>rfl
 | n+1,k,h=>by
  unfold rfewF
  rw[if_pos (h k (by omega) (by omega))]
  exact rfewF_none n (k+1) fun j h1 h2=>h j (by omega) (by omega)
theorem rfewF_some{r:Ros}{D:List Rng}{m:Nat}(h1:rlM r D m≠[]):∀(n k:Nat),k≤m→m<k+n→(∀j,k≤j→j<m→rlM r D j=[])→rfewF r D n k=(rlM r D m,rrM r D m)
 | 0,k,h2,h3,_=>by omega
 | n+1,k,h2,h3,h4=>by
  unfold rfewF
  by_cases c:k=m
  ·subst c;rw[if_neg h1]
  ·rw[if_pos (h4 k (by omega) (by omega))]
   exact rfewF_some h1 n (k+1) (by omega) (by omega) fun j g1 g2=>h4 j (by omega) g2
theorem hcomb_nn{n m:Nat}{l:List Int}(h:l∈hcomb n m 0):∀x∈l,0≤x:=fun x hx=>by have:=(hcomb_mem h).2.1 x hx;omega
theorem rat_nil{r:Ros}(hg:r.Good){l:List Int}(hl:∀x∈l,0≤x):rRat r ((entsL r).map devR) l r.hands.toNat []=[]↔htruthsR r (entsL r) (setN l)=[]:=by
 rw[← rRat_truths hg hl,List.map_eq_nil_iff]
theorem rlM_due{r:Ros}(hg:r.Good)(m:Nat):rlM r ((entsL r).map devR) m=hdue r m:=by
 unfold rlM hdue
 refine List.filter_congr fun l hl=>?_
 rw[decide_eq_decide,ne_eq,ne_eq,rat_nil hg (hcomb_nn hl)]
theorem rrM_mem{r:Ros}(hg:r.Good){m:Nat}(hm:m≤r.hands.toNat){u:List Int}:u∈foundR r (entsL r) m↔∃x∈rrM r ((entsL r).map devR) m,padR x=u:=by
 have hh:=hg.hands
 obtain⟨c1,c2⟩:=comb_set r.hands.toNat (by omega) m (by omega)
 have hp:(2:Nat)^r.hands.toNat≤2^4:=Nat.pow_le_pow_right (by omega) (by omega)
 rw[foundR_mem hg.toHead]
 constructor
 ·rintro⟨s,g1,g2,g3⟩
  obtain⟨k1,k2⟩:=c2 s g1 (by rw[popF_eq _ (by omega)];exact g2)
  rw[← k2,← rRat_truths hg (hcomb_nn k1)] at g3
  obtain⟨x,hx,rfl⟩:=List.mem_map.1 g3
  exact⟨x,List.mem_flatMap.2 ⟨_,k1,hx⟩,rfl⟩
 ·rintro⟨x,hx,rfl⟩
  obtain⟨l,hl,hx⟩:=List.mem_flatMap.1 hx
  obtain⟨g1,g2,_⟩:=c1 l hl
  refine⟨setN l,g1,by rw[← popF_eq _ (by omega)];exact g2,?_⟩
  rw[← rRat_truths hg (hcomb_nn hl)]
  exact List.mem_map.2 ⟨x,hx,rfl⟩
theorem rfew_spec{r:Ros}(hg:r.Good)(hro:rosE r=0) :
  (knownE r []=0∧(rfew r).1=fewL r∧fewL r≠[]∧(∀u,u∈explR r (entsL r)↔∃x∈(rfew r).2,padR x=u))∨(knownE r []=11∧rfew r=([],[])∧fewL r=[]∧explR r (entsL r)=[]):=by
 rcases explR_spec r (entsL r) with⟨e,g⟩ | ⟨m,g1,g2,g3,g4⟩
 ·right
  have hn:∀m,m≤r.hands.toNat→hdue r m=[]:=fun m hm=>(found_due hg.toHead hm).1 (g m hm)
  obtain⟨k1,k2⟩:=fewL_none hg hro hn
  exact⟨k1,rfewF_none _ _ fun j _ hj=>by rw[rlM_due hg];exact hn j (by omega),k2,e⟩
 ·left
  have h1:hdue r m≠[]:=fun c=>g3 ((found_due hg.toHead g1).2 c)
  have h0:∀j,j<m→hdue r j=[]:=fun j hj=>(found_due hg.toHead (by omega)).1 (g4 j hj)
  obtain⟨k1,k2⟩:=fewL_some hg hro g1 h1 h0
  have hf:rfew r=(rlM r ((entsL r).map devR) m,rrM r ((entsL r).map devR) m):=rfewF_some (by rw[rlM_due hg];exact h1) _ _ (by omega) (by omega) fun j _ hj=>by rw[rlM_due hg];exact h0 j hj
  rw[hf]
  refine⟨k1,by rw[k2];exact rlM_due hg m,by rw[k2];exact h1,fun u=>?_⟩
  rw[explR_iff g2]
  exact rrM_mem hg g1
end Go.Proofs
