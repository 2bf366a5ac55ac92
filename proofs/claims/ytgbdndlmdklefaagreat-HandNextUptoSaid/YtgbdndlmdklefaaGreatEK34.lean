/- Texts of a proof: lemmas. -/
import Derived.Test.YtgbdndlmdklefaaGreatEK33
import Derived.Test.YtgbdndlmdklefaaGreatEK27
set_option linter.unusedSimpArgs false
set_option linter.unusedVariables false
set_option maxRecDepth 100000
set_option maxHeartbeats 40000000
namespace Go.Proofs
open Go Go.Mu Go.Ins
variable {S:MC Tryz.prog}
theorem hset_same{σ:List AObj}{r:Nat}{o:AObj}(h:hget σ r=some o):hset σ r o=σ:=by
 unfold hget at h;unfold hset
 apply List.ext_getElem?
 intro k
 rw[List.getElem?_set]
 split
 ·rename_i e;subst e
  rw[if_pos (List.getElem?_eq_some_iff.1 h).1,h]
 ·rfl
theorem at_map{Z:List (List Int)}{i:Nat}(h:i<Z.length):(Z.map ints1)[i]? = some (ints1 (at_ Z i)):=by
 rw[at_eq h];simp[h]
theorem insL_c(zs:List (List Int))(hz:0<zs.length)(hn:zs.length≤1000000)(hel:∀x∈zs,x.length≤1000000){σ:List AObj}{r:Nat}(hg:hget σ r=some (.vec 1 (zs.map ints1))){Q:AV→List AObj→Prop}(h:Q (.tup []) (hset σ r (.vec 1 ((isort leL zs).map ints1)))) :
  ACalls S 210 [.vec r zs.length,.int .i64 0,.int .i64 zs.length,.fn (.func 139) [] []] σ Q:=by
 refine AcE (Tryz.envOK (S:=S) 53 Tryz.ord210 fs405 fs405_ok) Tryz.kp210 Tryz.func210 rfl ?_
 simp -implicitDefEqProofs (maxSteps:=9^9) (disch:=omega) only[go_sem,simprocAttr]
 refine ARun.forJ (Tryz.envOK (S:=S) 53 Tryz.ord210 fs405 fs405_ok) (zs.length-1) (fun i τ=>∃Z:List (List Int),Z.Perm zs∧Upto leL Z (i+1)∧τ=hset σ r (.vec 1 (Z.map ints1))) (fun i=>[(8,.int .i64 ((i:Int)+1))]) (by kernel_rfl) (by simp[upd,ins,subF,lookA]) ⟨zs,.refl _,Upto.one,(hset_same hg).symm⟩ ?_ ?_
 ·rintro i τ hi ⟨Z,hp,hu,rfl⟩ ih
  have hwi:IntKind.i64.wrap ((i:Int)+1+1)=((i+1:Nat):Int)+1:=by rw[wrap64 (by omega) (by omega)];rfl
  simp -implicitDefEqProofs (maxSteps:=9^9) (disch:=omega) only[go_sem,simprocAttr]
  refine ARun.loopJ (Tryz.envOK (S:=S) 53 Tryz.ord210 fs405 fs405_ok) (α:=Nat×List (List Int)) (fun a=>a.1) (fun a τ=>a.1≤i+1∧a.2.Perm zs∧Sinking leL a.2 (i+1) a.1∧τ=hset σ r (.vec 1 (a.2.map ints1))) (fun a=>[(9,.int .i64 (a.1:Int))]) (i+1,Z) (by kernel_rfl) (by simp[upd,ins,subF,lookA]) ⟨Nat.le_refl _,hp,hu.sinking,rfl⟩ ?_
  clear hu hp
  rintro⟨j,Y⟩ τ ⟨hj,hp,hS,rfl⟩ ih2
  simp only at hj hp hS ih2⊢
  have hyl:Y.length=zs.length:=hp.length_eq
  have hgy:hget (hset σ r (.vec 1 (Y.map ints1))) r=some (.vec 1 (Y.map ints1)):=hget_set hg _
  cases j with
  | zero=>
   have hU:=hS.done leL_trans (.inl rfl)
   simp -implicitDefEqProofs (maxSteps:=9^9) (disch:=omega) only[go_sem,simprocAttr,hwi]
   exact(ih _ ⟨Y,hp,hU,rfl⟩).castS rfl (by simp[upd,ins,subF,lookA])
  | succ k=>
   have hk1:k+1<Y.length:=by omega
   have m1:(Y.map ints1)[((k:Int)+1).toNat]? = some (ints1 (at_ Y (k+1))):=by rw[show((k:Int)+1).toNat=k+1 by omega];exact at_map hk1
   have t1:((k:Int)+1).toNat=k+1:=by omega
   have m0:=at_map (show k<Y.length by omega)
   have l1:(at_ Y (k+1)).length≤1000000:=by rw[at_eq hk1];exact hel _ (hp.mem_iff.1 (List.getElem_mem _))
   have l0:(at_ Y k).length≤1000000:=by rw[at_eq (by omega:k<Y.length)];exact hel _ (hp.mem_iff.1 (List.getElem_mem _))
   have hwk:IntKind.i64.wrap ((k:Int)+1-1)=(k:Int):=by rw[wrap64 (by omega) (by omega)];omega
   by_cases hlt:cmpL (at_ Y (k+1)) (at_ Y k)<0
   ·have hlt':(cmpL (at_ Y (k+1)) (at_ Y k)<0)=True:=eq_true hlt
    have hS2:=hS.step (by omega) hj (Int.le_of_lt hlt)
    have hp2:=(swp_perm hk1).trans hp
    have hgs:∀W,hget (hset σ r (.vec 1 W)) r=some (.vec 1 W):=fun W=>hget_set hg _
    have m0s:∀v,((Y.map ints1).set ((k:Int)+1).toNat v)[k]? = some (ints1 (at_ Y k)):=fun v=>by rw[List.getElem?_set_ne (by omega)];exact m0
    have hfin:((Y.map ints1).set ((k:Int)+1).toNat (ints1 (at_ Y k))).set k (ints1 (at_ Y (k+1)))=(swp Y k).map ints1:=by unfold swp;rw[List.map_set,List.map_set,t1]
    simp only[ints1] at hfin
    simp -implicitDefEqProofs (maxSteps:=9^9) (disch:=omega) only[go_sem,simprocAttr,hgs,m1,m0,m0s,hlt',hwk,ints1,List.length_set]
    exact(ih2 (k,swp Y k) _ (Nat.lt_succ_self k) ⟨by omega,hp2,hS2,by rw[hfin]⟩).castS rfl (by simp[upd,ins,subF,lookA])
   ·have hlt':(cmpL (at_ Y (k+1)) (at_ Y k)<0)=False:=eq_false hlt
    have hU:=hS.done leL_trans (.inr ⟨k,rfl,by unfold leL;rw[cmpL_swap];omega⟩)
    simp -implicitDefEqProofs (maxSteps:=9^9) (disch:=omega) only[go_sem,simprocAttr,hgy,m1,m0,hlt',hwk,hwi,ints1]
    exact(ih _ ⟨Y,hp,hU,rfl⟩).castS rfl (by simp[upd,ins,subF,lookA])
 ·rintro τ ⟨Z,hp,hu,rfl⟩
  have hzl:Z.length=zs.length:=hp.length_eq
  rw[show zs.length-1+1=Z.length by omega] at hu
  have he:=isort_eq leL_trans leL_total (fun a b=>leL_anti) hu.pairwise hp
  rw[← he] at h
  simp -implicitDefEqProofs (maxSteps:=9^9) (disch:=omega) only[go_sem,simprocAttr]
  exact h
theorem pdqL_c(zs:List (List Int))(hz:0<zs.length)(hn:zs.length≤12)(hel:∀x∈zs,x.length≤1000000){lim:Int}{σ:List AObj}{r:Nat}(hg:hget σ r=some (.vec 1 (zs.map ints1))){Q:AV→List AObj→Prop}(h:Q (.tup []) (hset σ r (.vec 1 ((isort leL zs).map ints1)))) :
  ACalls S 179 [.vec r zs.length,.int .i64 0,.int .i64 zs.length,.int .i64 lim,.fn (.func 139) [] []] σ Q:=by
 refine AcE (Tryz.envOK (S:=S) 148 Tryz.ord179 fs405 fs405_ok) Tryz.kp179 Tryz.func179 rfl ?_
 simp -implicitDefEqProofs (maxSteps:=9^9) (disch:=omega) only[go_sem,simprocAttr]
 refine ARun.once (Tryz.envOK (S:=S) 148 Tryz.ord179 fs405 fs405_ok) (by kernel_rfl) ?_
 have h12:((zs.length:Int)≤12)=True:=eq_true (by omega)
 simp -implicitDefEqProofs (maxSteps:=9^9) (disch:=omega) only[go_sem,simprocAttr,h12]
 refine insL_c zs hz (by omega) hel hg ?_
 simp -implicitDefEqProofs (maxSteps:=9^9) (disch:=omega) only[go_sem,simprocAttr]
 exact h
theorem sortL_c(zs:List (List Int))(hz:0<zs.length)(hn:zs.length≤12)(hel:∀x∈zs,x.length≤1000000){σ:List AObj}{r:Nat}(hg:hget σ r=some (.vec 1 (zs.map ints1))){Q:AV→List AObj→Prop}(h:Q (.tup []) (hset σ r (.vec 1 ((isort leL zs).map ints1)))) :
  ACalls S 138 [.vec r zs.length,.fn (.func 139) [] []] σ Q:=by
 refine AcE (Tryz.envOK (S:=S) 14 (fun _=>([],[])) fs405 fs405_ok) Tryz.kp138 Tryz.func138 rfl ?_
 have hw:IntKind.u64.wrap (zs.length:Int)=zs.length:=by unfold IntKind.wrap;simp[IntKind.signed,IntKind.bits];omega
 simp -implicitDefEqProofs (maxSteps:=9^9) (disch:=omega) only[go_sem,simprocAttr]
 rw[hw]
 refine len_p zs.length hz (by omega) _ _ ?_
 simp -implicitDefEqProofs (maxSteps:=9^9) (disch:=omega) only[go_sem,simprocAttr]
 refine pdqL_c zs hz hn hel hg ?_
 simp -implicitDefEqProofs (maxSteps:=9^9) (disch:=omega) only[go_sem,simprocAttr]
 exact h
end Go.Proofs
namespace Go.Proofs
open Go Go.Mu Go.Ins
def rosZ:AV:= .agg [.int .i64 0,.int .i64 0,.int .i64 0,.int .i64 0,.list .full 0 [],.list .full 0 [],.list .full 0 []]
def knownE(r:Ros)(ws:List Int):Int:=if rosE r≠0 then rosE r else if firstNZ ws≠0 then firstNZ ws else if explR r (entsL r)=[] then 11 else 0
theorem firstNZ_drop{l:List Int}{i:Nat}(h:i<l.length):firstNZ (l.drop i)=if l[i]=0 then firstNZ (l.drop (i+1)) else l[i]:=by rw[List.drop_eq_getElem_cons h];rfl
theorem explR_len{r:Ros}(hr:r.Head){ds:List (List Int)}:(explR r ds).length≤16*14641:=by
 have key:∀n k,(explF r ds n k).length≤16*14641:=by
  intro n
  induction n with
  | zero=>intro k;simp[explF]
  | succ n ih=>
   intro k
   simp only[explF]
   split
   ·exact ih _
   ·refine Nat.le_trans (addX_len _ _) ?_
    have h1:=foundS_len hr (ds:=ds) (many:=k) (2^r.hands.toNat)
    have hh:=hr.hands
    have hp:(2:Nat)^r.hands.toNat≤2^4:=Nat.pow_le_pow_right (by omega) (by omega)
    have h2:foundS r ds k (2^r.hands.toNat)=foundR r ds k:=rfl
    rw[h2] at h1
    simp only[List.length_nil]
    omega
 exact key _ _
theorem known_c(r:Ros)(hf:r.Fit)(ws:List Int)(hws:ws.length≤1000){σ:List AObj}{Q:AV→List AObj→Prop}
  (hE:knownE r ws≠0→∀j,Q (.tup [rosZ,.nilmap,.int .i64 (knownE r ws)]) (σ++j))
  (hO:knownE r ws=0→r.Good→∀a j,σ.length≤a→hget (σ++j) a=some (.map (mapX (explR r (entsL r))))→Q (.tup [r.wav (entsL r),.map a,.int .i64 0]) (σ++j)) :
  ACalls SBes 84 [r.av,.list .no 1 (ws.map (.int .i64))] σ Q:=by
 refine AcE (Tryz.envOK (S:=SBes) 40 (fun _=>([],[])) fs0 fs0_ok) Tryz.kp84 Tryz.func84 rfl ?_
 by_cases hh:headE r=0
 ·by_cases he:entsE r=0
  ·have hg:=r.good_of hh he
   have hro:rosE r=0:=by unfold rosE;rw[if_neg (fun h=>h hh)];exact he
   have hkE:knownE r ws=if firstNZ ws≠0 then firstNZ ws else if explR r (entsL r)=[] then 11 else 0:=by unfold knownE;rw[if_neg (fun h=>h hro)]
   simp only[Ros.av]
   simp -implicitDefEqProofs (maxSteps:=9^9) (disch:=omega) only[go_sem,simprocAttr]
   refine rosterOf_ok r hh (by have:=hf.sets;omega) (hf.ok hh) _ _ ?_
   rw[he]
   simp only[Ros.wav]
   simp -implicitDefEqProofs (maxSteps:=9^9) (disch:=omega) only[go_sem,simprocAttr]
   refine ARun.countA ws.length (fun i τ=>firstNZ (ws.drop i)=firstNZ ws∧τ=σ++[.cells [.int .i64 r.hands,.int .i64 r.skill,.int .i64 r.mn,.int .i64 r.mx,.list .no 2 (r.sets.map Sg.av),.list .no 6 (r.ents.map Tn.av)],.cells [.int .i64 0,.int .i64 0,.int .i64 0,.int .i64 0,.list .full 0 [],.list .full 0 [],.list .full 0 []],.cells (r.wcells (entsL r))]) (fun i=>[(23,.int .i64 i)]) (by simp[upd,ins,subF,lookA]) ⟨by simp,by simp[Ros.wcells]⟩ ?_ ?_
   ·rintro i τ hi ⟨hp,rfl⟩ ih
    rw[firstNZ_drop hi] at hp
    refine ev_sound (Tryz.envOK (S:=SBes) 40 (fun _=>([],[])) fs0 fs0_ok) (n:=1000) (by kernel_rfl) ?_
    by_cases hz:ws[i]=0
    ·rw[if_pos hz] at hp
     simp -implicitDefEqProofs (maxSteps:=9^9) (disch:=omega) only[go_sem,simprocAttr,hz]
     exact(ih _ ⟨hp,rfl⟩).castS rfl (by simp[upd,ins,subF,lookA])
    ·rw[if_neg hz] at hp
     have hz':(ws[i]=0)=False:=eq_false hz
     have hk1:knownE r ws=ws[i]:=by rw[hkE,← hp,if_pos hz]
     simp -implicitDefEqProofs (maxSteps:=9^9) (disch:=omega) only[go_sem,simprocAttr,hz']
     have:=hE (by rw[hk1];exact hz)
     rw[hk1] at this
     exact this _
   ·rintro τ ⟨hp,rfl⟩
    rw[List.drop_length] at hp
    have hf0:firstNZ ws=0:=hp.symm
    refine ev_sound (Tryz.envOK (S:=SBes) 40 (fun _=>([],[])) fs0 fs0_ok) (n:=9) (by kernel_rfl) ?_
    simp -implicitDefEqProofs (maxSteps:=9^9) (disch:=omega) only[go_sem,simprocAttr,Ros.wcells]
    refine expl_c r (entsL r) hg.work fun j2=>?_
    simp only[List.append_assoc,List.cons_append,List.nil_append,List.length_append,List.length_cons,List.length_nil,Nat.zero_add,Nat.reduceAdd,Nat.add_assoc]
    simp -implicitDefEqProofs (maxSteps:=9^9) (disch:=omega) only[go_sem,simprocAttr,Ros.wcells]
    change ARun _ _ _ _ _ _
    refine ARun.regionM (Tryz.envOK (S:=SBes) 40 (fun _=>([],[])) fs0 fs0_ok) 1 ?_
    have hml:(mapX (explR r (entsL r))).length=(explR r (entsL r)).length:=by simp[mapX]
    by_cases hz:explR r (entsL r)=[]
    ·have hk1:knownE r ws=11:=by rw[hkE,hf0,if_neg (by simp),if_pos hz]
     have hl0:(explR r (entsL r)).length=0:=by rw[hz];rfl
     simp -implicitDefEqProofs (maxSteps:=9^9) (disch:=omega) only[go_sem,simprocAttr,Ros.wcells,hml,hl0]
     refine ev_sound (Tryz.envOK (S:=SBes) 40 (fun _=>([],[])) fs0 fs0_ok) (n:=1000) (by kernel_rfl) ?_
     simp -implicitDefEqProofs (maxSteps:=9^9) (disch:=omega) only[go_sem,simprocAttr,Ros.wcells,hml,hl0]
     have:=hE (by rw[hk1];decide)
     rw[hk1] at this
     exact this _
    ·have hk1:knownE r ws=0:=by rw[hkE,hf0,if_neg (by simp),if_neg hz]
     have hpos:0<(explR r (entsL r)).length:=List.length_pos_iff.2 hz
     have hl0:(((explR r (entsL r)).length:Int)=0)=False:=by simp;exact hz
     have hO':=hO hk1 hg
     simp -implicitDefEqProofs (maxSteps:=9^9) (disch:=omega) only[go_sem,simprocAttr,Ros.wcells,hml,hl0]
     refine ev_sound (Tryz.envOK (S:=SBes) 40 (fun _=>([],[])) fs0 fs0_ok) (n:=1000) (by kernel_rfl) ?_
     simp -implicitDefEqProofs (maxSteps:=9^9) (disch:=omega) only[go_sem,simprocAttr,Ros.wcells,hml,hl0]
     exact hO' (σ.length+4) _ (by omega) (by simp[hget_at])
  ·have hro:rosE r≠0:=by unfold rosE;rw[if_neg (fun h=>h hh)];exact he
   have hk1:knownE r ws=entsE r:=by unfold knownE;rw[if_pos hro];unfold rosE;rw[if_neg (fun h=>h hh)]
   have he':(entsE r=0)=False:=eq_false he
   simp only[Ros.av]
   simp -implicitDefEqProofs (maxSteps:=9^9) (disch:=omega) only[go_sem,simprocAttr]
   refine rosterOf_ok r hh (by have:=hf.sets;omega) (hf.ok hh) _ _ ?_
   simp only[Ros.wav]
   simp -implicitDefEqProofs (maxSteps:=9^9) (disch:=omega) only[go_sem,simprocAttr,he']
   have:=hE (by rw[hk1];exact he)
   rw[hk1] at this
   exact this _
 ·have hro:rosE r≠0:=by unfold rosE;rw[if_pos hh];exact hh
  have hk1:knownE r ws=headE r:=by unfold knownE;rw[if_pos hro];unfold rosE;rw[if_pos hh]
  have hh':(headE r=0)=False:=eq_false hh
  simp only[Ros.av]
  simp -implicitDefEqProofs (maxSteps:=9^9) (disch:=omega) only[go_sem,simprocAttr]
  refine rosterOf_err r hh (by have:=hf.sets;omega) (by have:=hf.ents;omega) _ _ ?_
  simp only[Ros.wav]
  simp -implicitDefEqProofs (maxSteps:=9^9) (disch:=omega) only[go_sem,simprocAttr,hh']
  have:=hE (by rw[hk1];exact hh)
  rw[hk1] at this
  exact this _
end Go.Proofs
namespace Go.Proofs
open Go Go.Mu Go.Ins
variable {S:MC Tryz.prog}
def mapS(l:List Nat):List (AV×AV):=l.map fun(s:Nat)=>(.int .u64 (s:Int),.bool true)
theorem keyS(a b:Nat):keyEq (.int .u64 (a:Int)) (.int .u64 (b:Int))=some (decide (a=b)):=by
 simp only[keyEq,if_true,Option.some.injEq]
 rw[Bool.eq_iff_iff]
 simp[Int.ofNat_inj]
theorem findS{s:Nat}:∀{m:List Nat} {i:Nat},(s∉m→findA (.int .u64 (s:Int)) (mapS m) i=some none)∧(s∈m→∃j,findA (.int .u64 (s:Int)) (mapS m) i=some (some (j,.bool true)))
 | [],i=>⟨fun _=>rfl,fun h=>by simp at h⟩
 | y::m,i=>by
  obtain⟨h1,h2⟩:=@findS s m (i+1)
  simp only[mapS,List.map_cons,findA,keyS] at h1 h2⊢
  by_cases e:s=y
  ·subst e
   rw[decide_eq_true rfl]
   exact⟨fun h=>absurd (by simp) h,fun _=>⟨i,rfl⟩⟩
  ·rw[decide_eq_false e]
   exact⟨fun h=>h1 (fun hm=>h (by simp[hm])),fun h=>h2 ((List.mem_cons.1 h).resolve_left e)⟩
theorem lookS{s:Nat}{m:List Nat}{σ:List AObj}:lookR false (.bool false) σ (findA (.int .u64 (s:Int)) (mapS m) 0)=some (.bool (decide (s∈m)),σ):=by
 by_cases h:s∈m
 ·obtain⟨j,hj⟩:=(@findS s m 0).2 h
  rw[hj,decide_eq_true h];rfl
 ·rw[(@findS s m 0).1 h,decide_eq_false h];rfl
theorem updS{s:Nat}{m:List Nat}{r:Nat}{σ:List AObj}(h:s∉m):updR r (mapS m) (.int .u64 (s:Int)) (.bool true) σ (findA (.int .u64 (s:Int)) (mapS m) 0)=some (.tup [],hset σ r (.map (mapS (m++[s])))):=by
 rw[(@findS s m 0).1 h]
 simp[updR,mapS]
def driftsL(L:List (List Int)):List Nat:=(L.map driftN).foldl addX []
def setsL(L:List (List Int)):List (List Int):=isort leL ((driftsL L).map listN)
theorem driftsL_perm{L M:List (List Int)}(h:∀s,(∃x∈L,driftN x=s)↔∃x∈M,driftN x=s):(driftsL L).Perm (driftsL M):=by
 unfold driftsL
 rw[List.perm_ext_iff_of_nodup (addX_nodup List.nodup_nil) (addX_nodup List.nodup_nil)]
 intro s
 simp only[addX_mem,List.not_mem_nil,false_or,List.mem_map]
 exact h s
theorem isort_perm_eq{a b:List (List Int)}(h:a.Perm b):isort leL a=isort leL b:=
 isort_eq leL_trans leL_total (fun x y=>leL_anti) (isort_pair leL_trans leL_total a) ((isort_perm a).trans h)
theorem driftsL_snoc{L:List (List Int)}{x:List Int}:driftsL (L++[x])=addX (driftsL L) (driftN x):=by
 unfold driftsL;rw[List.map_append,List.foldl_append];rfl
theorem listN_len(s:Nat):(listN s).length≤4:=by
 unfold listN;rw[List.length_map];exact Nat.le_trans (List.length_filter_le _ _) (by simp)
theorem sets_c(L:List (List Int))(hL:∀x∈L,x.length=4)(hne:L≠[])(hlen:L.length≤1000000)(h12:(driftsL L).length≤12){a:Nat}{σ:List AObj}(ha:hget σ a=some (.map (mapX L))){Q:AV→List AObj→Prop}(hQ:Q (.list .no 1 ((setsL L).map ints1)) σ) :
  ACalls S 85 [.map a] σ Q:=by
 refine ACalls.clean ?_
 refine ACalls.froze ?_
 refine AcE (Tryz.envOK (S:=S) 30 (fun _=>([],[])) fs405 fs405_ok) Tryz.kp85 Tryz.func85 rfl ?_
 have hal:=hget_lt ha
 have hal1:∀l,hget (σ++l) a=some (.map (mapX L)):=fun l=>by rw[hget_app hal];exact ha
 have hml:(mapX L).length=L.length:=by simp[mapX]
 simp -implicitDefEqProofs (maxSteps:=9^9) (disch:=omega) only[go_sem,simprocAttr,hal1,hml]
 refine ARun.ghostV 4 1 (sz0:=0) rfl (by simp[lookA]) ?_
 simp only[ins,↓reduceIte,List.append_assoc,List.cons_append,List.nil_append,List.length_append,List.length_cons,List.length_nil,Nat.zero_add,Nat.reduceEqDiff,Nat.reduceAdd]
 refine ARun.loopJ (Tryz.envOK (S:=S) 30 (fun _=>([],[])) fs405 fs405_ok) (α:=List Nat) (fun a=>L.length-a.length) (fun seen τ=>(∃j,τ=σ++(.map (mapS (driftsL (seen.map fun i=>L.getD i []))):: .iter (some a) L.length seen:: .vec 1 ((driftsL (seen.map fun i=>L.getD i [])).map fun s=>ints1 (listN s))::j))∧seen.Nodup∧∀i∈seen,i<L.length) (fun seen=>[(4,.vec (σ.length+2) (driftsL (seen.map fun i=>L.getD i [])).length)]) [] (by kernel_rfl) (by simp[upd,ins,subF,lookA,driftsL]) ⟨⟨[],by simp[driftsL,mapS]⟩,by simp,by simp⟩ ?_
 rintro seen τ ⟨⟨j,rfl⟩,hnd,hlt⟩ ih
 have hsl:=seen_len hnd hlt
 have hdl:(driftsL (seen.map fun i=>L.getD i [])).length≤seen.length:=by
  have:=addX_len ((seen.map fun i=>L.getD i []).map driftN) ([]:List Nat)
  simpa[driftsL] using this
 simp -implicitDefEqProofs (maxSteps:=9^9) (disch:=omega) only[go_sem,simprocAttr]
 refine nextA_intro (q:=a) (c:=L.length) (seen:=seen) (es:=mapX L) (by rw[hget_at];rfl) (hal1 _) hml.symm (fun i2 k v hi2 hns=>?_) (fun hall=>?_)
 ·obtain⟨x,hx,hkv⟩:∃x,L[i2]? = some x∧(rtv x,AV.bool true)=(k,v):=by simpa[mapX] using hi2
  simp only[Prod.mk.injEq] at hkv
  obtain⟨rfl,rfl⟩:=hkv
  have hil:=(List.getElem?_eq_some_iff.1 hx).1
  have hxm:x∈L:=List.mem_of_getElem? hx
  have hgd:L.getD i2 []=x:=by rw[List.getD_eq_getElem?_getD,hx];rfl
  have hgl:(seen++[i2]).getLast? = some i2:=by simp
  have hnd2:(seen++[i2]).Nodup:=by
   rw[List.nodup_append]
   exact⟨hnd,by simp,fun a ha b hb e=>by simp at hb;subst hb;exact hns (e▸ha)⟩
  have hlt2:∀i∈seen++[i2],i<L.length:=fun i hi=>by
   rcases List.mem_append.1 hi with hi | hi
   ·exact hlt i hi
   ·simp at hi;omega
  have hsl2:=seen_len hnd2 hlt2
  rw[List.length_append,List.length_singleton] at hsl2
  have ih2:=ih (seen++[i2])
  have hmm:(seen++[i2]).map (fun i=>L.getD i [])=seen.map (fun i=>L.getD i [])++[x]:=by rw[List.map_append];simp only[List.map_cons,List.map_nil,hgd]
  rw[hmm,driftsL_snoc] at ih2
  clear hmm
  generalize driftsL (seen.map fun i=>L.getD i [])=S at hdl ih2⊢
  obtain⟨b,c,d,e,rfl⟩:=len4 (hL x hxm)
  simp only[rtv,List.map_cons,List.map_nil] at hi2
  have hs16:=driftN_lt [b,c,d,e]
  simp -implicitDefEqProofs (maxSteps:=9^9) (disch:=omega) only[go_sem,simprocAttr,hal1,hgl,hi2,hml]
  refine drifting_p [b,c,d,e] rfl _ _ ?_
  generalize driftN [b,c,d,e]=s at hs16 ih2⊢
  by_cases hm:s∈S
  ·have hlk:∀σ,lookR false (.bool false) σ (findA (.int .u64 (s:Int)) (mapS S) 0)=some (.bool true,σ):=fun _=>by rw[lookS,decide_eq_true hm]
   rw[show addX S s=S from if_pos hm] at ih2
   simp -implicitDefEqProofs (maxSteps:=9^9) (disch:=omega) only[go_sem,simprocAttr,hal1,hgl,hi2,hml,hlk]
   refine(ih2 _ (by rw[List.length_append,List.length_singleton];omega) ⟨⟨j++[.cells [.int .i64 b,.int .i64 c,.int .i64 d,.int .i64 e]],rfl⟩,hnd2,hlt2⟩).castS rfl (by simp[upd,ins,subF,lookA])
  ·have hlk:∀σ,lookR false (.bool false) σ (findA (.int .u64 (s:Int)) (mapS S) 0)=some (.bool false,σ):=fun _=>by rw[lookS,decide_eq_false hm]
   have hup:=fun(r:Nat) (σ:List AObj)=>@updS s S r σ hm
   rw[show addX S s=S++[s] from if_neg hm] at ih2
   simp -implicitDefEqProofs (maxSteps:=9^9) (disch:=omega) only[go_sem,simprocAttr,hal1,hgl,hi2,hml,hlk,hup]
   refine list_p s hs16 _ _ ?_
   simp -implicitDefEqProofs (maxSteps:=9^9) (disch:=omega) only[go_sem,simprocAttr,hal1,hgl,hi2,hml,ints1]
   refine(ih2 _ (by rw[List.length_append,List.length_singleton];omega) ⟨⟨j++[.cells [.int .i64 b,.int .i64 c,.int .i64 d,.int .i64 e]],rfl⟩,hnd2,hlt2⟩).castS (by simp[ints1]) (by simp[upd,ins,subF,lookA])
 ·have hall':∀i,i<L.length→i∈seen:=fun i hi=>hall i (by rw[hml];exact hi)
  have hps:=seen_perm ([]:List Int) hnd hlt hall'
  have hpd:(driftsL (seen.map fun i=>L.getD i [])).Perm (driftsL L):=driftsL_perm fun s=>⟨fun⟨x,hx,e⟩=>⟨x,hps.mem_iff.1 hx,e⟩,fun⟨x,hx,e⟩=>⟨x,hps.mem_iff.2 hx,e⟩⟩
  have hpos:0<(driftsL L).length:=by
   obtain⟨x,hx⟩:=List.exists_mem_of_ne_nil _ hne
   exact List.length_pos_iff.2 (List.ne_nil_of_mem (addX_mem.2 (.inr (List.mem_map.2 ⟨x,hx,rfl⟩)):driftN x∈driftsL L))
  have hso:isort leL ((driftsL (seen.map fun i=>L.getD i [])).map listN)=setsL L:=isort_perm_eq (hpd.map listN)
  rw[← hpd.length_eq] at h12 hpos
  rw[← hso] at hQ
  clear hpd hso hps ih
  generalize driftsL (seen.map fun i=>L.getD i [])=T at *
  have e2:(T.map fun s=>ints1 (listN s))=(T.map listN).map ints1:=by rw[List.map_map];rfl
  have e1:T.length=(T.map listN).length:=by simp
  have hel:∀x∈T.map listN,x.length≤1000000:=fun x hx=>by
   obtain⟨s,_,rfl⟩:=List.mem_map.1 hx
   have:=listN_len s;omega
  rw[e2,e1]
  rw[e1] at h12 hpos
  generalize T.map listN=zs at *
  simp -implicitDefEqProofs (maxSteps:=9^9) (disch:=omega) only[go_sem,simprocAttr]
  refine sortL_c zs hpos h12 hel (by rw[hget_at];rfl) ?_
  simp -implicitDefEqProofs (maxSteps:=9^9) (disch:=omega) only[go_sem,simprocAttr]
  refine⟨σ.length+2,1,(isort leL zs).map ints1,by rw[List.length_map,(isort_perm zs).length_eq],by rw[hget_at];rfl,_,_,hset_at,Weak.refl _,?_,hQ⟩
  exact(Plain.map fun y _=>Plain.cells_list (ints1_good y).2) _
end Go.Proofs
namespace Go.Proofs
open Go Go.Mu Go.Ins
theorem driftN_of{r:Ros}(hr:r.Head){s:Nat}(hs:s<2^r.hands.toNat){u:List Int}(hu:u∈ratesR r s):driftN u=s:=by
 obtain⟨_,_,g1,g2⟩:=ratesR_sup hr hu
 have hh:=hr.hands
 apply Nat.eq_of_testBit_eq
 intro i
 rw[driftN,bitsOf_test]
 by_cases hi:i<r.hands.toNat
 ·have h4:i<4:=by omega
  have:=g1 i hi
  rw[decide_eq_true h4,Bool.true_and]
  by_cases hb:s.testBit i=true
  ·rw[hb,decide_eq_true (this.2 hb)]
  ·rw[Bool.eq_false_iff.2 hb]
   exact decide_eq_false fun h=>hb (this.1 h)
 ·have h0:=g2 i (by omega)
  have hsb:s.testBit i=false:=Nat.testBit_lt_two_pow (Nat.lt_of_lt_of_le hs (Nat.pow_le_pow_right (by omega) (by omega)))
  rw[hsb,decide_eq_false (p:=tg u i≠0) (by simp[h0]),Bool.and_false]
theorem explF_spec{r:Ros}{ds:List (List Int)}:∀(n k:Nat),(explF r ds n k=[]∧∀j,k≤j→j<k+n→foundR r ds j=[])∨∃m,k≤m∧m<k+n∧explF r ds n k=(foundR r ds m).foldl addX []∧foundR r ds m≠[]∧∀j,k≤j→j<m→foundR r ds j=[]
 | 0,k=> .inl ⟨rfl,fun j h1 h2=>by omega⟩
 | n+1,k=>by
  simp only[explF]
  by_cases h:foundR r ds k=[]
  ·rw[if_pos h]
   rcases explF_spec (r:=r) (ds:=ds) n (k+1) with⟨h1,h2⟩ | ⟨m,h1,h2,h3,h4,h5⟩
   ·refine .inl ⟨h1,fun j g1 g2=>?_⟩
    by_cases e:j=k
    ·subst e;exact h
    ·exact h2 j (by omega) (by omega)
   ·refine .inr ⟨m,by omega,by omega,h3,h4,fun j g1 g2=>?_⟩
    by_cases e:j=k
    ·subst e;exact h
    ·exact h5 j (by omega) g2
  ·rw[if_neg h]
   exact .inr ⟨k,Nat.le_refl _,by omega,rfl,h,fun j g1 g2=>by omega⟩
theorem explR_spec(r:Ros)(ds:List (List Int)):(explR r ds=[]∧∀j,j≤r.hands.toNat→foundR r ds j=[])∨∃m,m≤r.hands.toNat∧explR r ds=(foundR r ds m).foldl addX []∧foundR r ds m≠[]∧∀j,j<m→foundR r ds j=[]:=by
 rcases explF_spec (r:=r) (ds:=ds) (r.hands.toNat+1) 0 with⟨h1,h2⟩ | ⟨m,h1,h2,h3,h4,h5⟩
 ·exact .inl ⟨h1,fun j hj=>h2 j (by omega) (by omega)⟩
 ·exact .inr ⟨m,by omega,h3,h4,fun j hj=>h5 j (by omega) hj⟩
theorem foundR_mem{r:Ros}(hr:r.Head){ds:List (List Int)}{m:Nat}{u:List Int}:u∈foundR r ds m↔∃s,s<2^r.hands.toNat∧popN s=m∧u∈htruthsR r ds s:=by
 unfold foundR foundS
 simp only[List.mem_flatMap,List.mem_filter,List.mem_range,beq_iff_eq]
 exact⟨fun⟨s,⟨h1,h2⟩,h3⟩=>⟨s,h1,h2,h3⟩,fun⟨s,h1,h2,h3⟩=>⟨s,⟨h1,h2⟩,h3⟩⟩
theorem found_pop{r:Ros}(hr:r.Head){ds:List (List Int)}{m:Nat}{u:List Int}(h:u∈foundR r ds m):popN (driftN u)=m∧driftN u<2^r.hands.toNat∧u∈htruthsR r ds (driftN u):=by
 obtain⟨s,h1,h2,h3⟩:=(foundR_mem hr).1 h
 rw[driftN_of hr h1 (List.mem_filter.1 h3).1]
 exact⟨h2,h1,h3⟩
theorem nodup_sub{α:Type}[DecidableEq α]{T F:List α}(hT:T.Nodup)(hF:F.Nodup)(h:∀x∈T,x∈F):T.length≤F.length:=by
 have h1:T.Perm (F.filter fun i=>decide (i∈T)):=by
  rw[List.perm_ext_iff_of_nodup hT (hF.filter _)]
  intro i
  rw[List.mem_filter,decide_eq_true_eq]
  exact⟨fun g=>⟨h i g,g⟩,fun g=>g.2⟩
 rw[h1.length_eq]
 exact List.length_filter_le _ _
theorem pop_few:∀m,((List.range 16).filter fun s=>popN s==m).length≤6:=by
 intro m
 have e:((List.range 16).filter fun s=>popN s==m)=(List.range 16).filter fun s=>popF s==m:=List.filter_congr fun s hs=>by
  rw[popF_eq s (by have:=List.mem_range.1 hs;omega)]
 rw[e]
 by_cases hm:m≤4
 ·rcases(by omega:m=0∨m=1∨m=2∨m=3∨m=4) with rfl | rfl | rfl | rfl | rfl<;> decide +kernel
 ·have:((List.range 16).filter fun s=>popF s==m)=[]:=by
   rw[List.filter_eq_nil_iff]
   intro s hs
   have h2:∀s∈List.range 16,popF s≤4:=by decide +kernel
   have:=h2 s hs
   simp;omega
  rw[this];simp
theorem drifts_few{r:Ros}(hr:r.Head)(ds:List (List Int)):(driftsL (explR r ds)).length≤6:=by
 have hh:=hr.hands
 rcases explR_spec r ds with⟨h1,_⟩ | ⟨m,_,h1,_,_⟩
 ·rw[h1];simp[driftsL]
 ·refine Nat.le_trans (nodup_sub (addX_nodup List.nodup_nil) (List.nodup_range.filter _) (F:=(List.range 16).filter fun s=>popN s==m) fun s hs=>?_) (pop_few m)
  rcases addX_mem.1 hs with h | h
  ·simp at h
  obtain⟨x,hx,rfl⟩:=List.mem_map.1 h
  rw[h1] at hx
  have hx':x∈foundR r ds m:=(addX_mem.1 hx).resolve_left (by simp)
  have:=found_pop hr hx'
  rw[List.mem_filter,List.mem_range,beq_iff_eq]
  have hp:(2:Nat)^r.hands.toNat≤2^4:=Nat.pow_le_pow_right (by omega) (by omega)
  exact⟨by omega,this.1⟩
theorem explR_iff{r:Ros}{ds:List (List Int)}{m:Nat}(h:explR r ds=(foundR r ds m).foldl addX []){u:List Int}:u∈explR r ds↔u∈foundR r ds m:=by
 rw[h,addX_mem];simp
end Go.Proofs
namespace Go.Proofs
open Go Go.Mu Go.Ins
variable {S:MC Tryz.prog}
def hplaceL(l:List Int)(x:Int):Int:=if x∈l then(l.idxOf x:Int) else -1
theorem hplace_at{l:List Int}{x:Int}{i:Nat}(hi:i<l.length)(h:x∉l.take i)(e:l[i]=x):hplaceL l x=i:=by
 have hm:x∈l:=by rw[← e];exact List.getElem_mem _
 unfold hplaceL
 rw[if_pos hm]
 have hs:l=l.take i++l[i]::l.drop (i+1):=by rw[← List.drop_eq_getElem_cons hi,List.take_append_drop]
 have:l.idxOf x=i:=by
  conv=>lhs;rw[hs]
  rw[List.idxOf_append,if_neg h,e]
  simp[List.idxOf_cons];omega
 rw[this]
theorem hplace_nonneg{l:List Int}{x:Int}:decide (0≤hplaceL l x)=l.contains x:=by
 unfold hplaceL
 by_cases h:x∈l
 ·rw[if_pos h];simp[h]
 ·rw[if_neg h];simp[h]
theorem hnotin_succ{l:List Int}{x:Int}{i:Nat}(hi:i<l.length)(h:x∉l.take i)(e:l[i]≠x):x∉l.take (i+1):=by
 rw[List.take_succ_eq_append_getElem hi,List.mem_append]
 intro hm
 rcases hm with hm | hm
 ·exact h hm
 ·simp at hm;exact e hm.symm
theorem hsindex_p(l:List Int)(x:Int)(hl:l.length≤4294967296):PureV S 181 [.list .no 1 (l.map (.int .i64)),.int .i64 x] (.int .i64 (hplaceL l x)):=by
 refine PvE (Tryz.envOK (S:=S) 19 (fun _=>([],[])) fs0 fs0_ok) (.int) Tryz.kp181 Tryz.func181 rfl ?_
 intro σ
 simp -implicitDefEqProofs (maxSteps:=9^9) (disch:=omega) only[go_sem,simprocAttr]
 refine ARun.forS (Tryz.envOK (S:=S) 19 (fun _=>([],[])) fs0 fs0_ok) l.length (fun i=>x∉l.take i) (fun i=>[(8,.int .i64 i)]) (fun _ _=>σ) [] (by kernel_rfl) rfl (by simp[upd,ins,subF,lookA]) (by simp) ?_ ?_
 ·intro i j hi hp ih
  have hli:idx (l.map (AV.int .i64)) (i:Int)=some (.int .i64 l[i]):=by rw[idx_nat hi]
  have hat:=hplace_at (x:=x) hi hp
  have hns:=hnotin_succ (x:=x) hi hp
  generalize l[i]=y at hli hat hns
  clear hp
  by_cases hy:x=y
  ·rw[hat hy.symm]
   simp -implicitDefEqProofs (maxSteps:=9^9) (disch:=omega) only[go_sem,simprocAttr,hli]
  ·simp -implicitDefEqProofs (maxSteps:=9^9) (disch:=omega) only[go_sem,simprocAttr,hli]
   exact(ih (hns fun e=>hy e.symm) []).castS rfl (by simp[upd,ins,subF,lookA])
 ·intro j hp
  rw[List.take_length] at hp
  have:hplaceL l x= -1:=by unfold hplaceL;rw[if_neg hp]
  rw[this]
  simp -implicitDefEqProofs (maxSteps:=9^9) (disch:=omega) only[go_sem,simprocAttr]
def hsindex_s:=spec2 tIs tI fun l x=>if l.length≤4294967296 then some (.int .i64 (hplaceL l x)) else none
theorem hsindex_ok:∀xs v,hsindex_s xs=some v→PureV S 181 xs v:=
 spec2_ok fun l x v h=>by have h:=someIf h;rw[← h.2];exact hsindex_p l x h.1
def fs406(f:FuncId)(xs:List AV):Option AV:=if f=181 then hsindex_s xs else fs405 f xs
theorem fs406_ok{S:MC Tryz.prog}:∀f xs v,fs406 f xs=some v→PureV S f xs v:=by
 intro f xs v h
 unfold fs406 at h
 split at h
 ·rename_i e;subst e;exact hsindex_ok _ _ h
 exact fs405_ok _ _ _ h
attribute [go_sem] fs406 hsindex_s
theorem hscontains_p(l:List Int)(x:Int)(hl:l.length≤4294967296):PureV S 140 [.list .no 1 (l.map (.int .i64)),.int .i64 x] (.bool (l.contains x)):=by
 refine PvE (Tryz.envOK (S:=S) 9 (fun _=>([],[])) fs406 fs406_ok) (.bool) Tryz.kp140 Tryz.func140 rfl ?_
 intro σ
 have hd:=hplace_nonneg (l:=l) (x:=x)
 rw[← hd]
 clear hd
 generalize hz:hplaceL l x=z
 by_cases h0:0≤z
 ·have e:decide (0≤z)=true:=by simpa using h0
  rw[e]
  simp -implicitDefEqProofs (maxSteps:=9^9) (disch:=omega) only[go_sem,simprocAttr,hz]
 ·have e:decide (0≤z)=false:=by simpa using h0
  rw[e]
  simp -implicitDefEqProofs (maxSteps:=9^9) (disch:=omega) only[go_sem,simprocAttr,hz]
def hscontains_s:=spec2 tIs tI fun l x=>if l.length≤4294967296 then some (.bool (l.contains x)) else none
theorem hscontains_ok:∀xs v,hscontains_s xs=some v→PureV S 140 xs v:=
 spec2_ok fun l x v h=>by have h:=someIf h;rw[← h.2];exact hscontains_p l x h.1
def fs407(f:FuncId)(xs:List AV):Option AV:=if f=140 then hscontains_s xs else fs406 f xs
theorem fs407_ok{S:MC Tryz.prog}:∀f xs v,fs407 f xs=some v→PureV S f xs v:=by
 intro f xs v h
 unfold fs407 at h
 split at h
 ·rename_i e;subst e;exact hscontains_ok _ _ h
 exact fs406_ok _ _ _ h
attribute [go_sem] fs407 hscontains_s
def cntL(l:List (List Int))(h:Int):Nat:=(l.filter fun s=>s.contains h).length
theorem hcount_p(l:List (List Int))(h:Int)(hl:l.length≤1000000)(hel:∀x∈l,x.length≤1000000):PureV S 86 [.list .no 1 (l.map ints1),.int .i64 h] (.int .i64 (cntL l h)):=by
 refine PvE (Tryz.envOK (S:=S) 21 (fun _=>([],[])) fs407 fs407_ok) (.int) Tryz.kp86 Tryz.func86 rfl ?_
 intro σ
 simp -implicitDefEqProofs (maxSteps:=9^9) (disch:=omega) only[go_sem,simprocAttr]
 refine ARun.forS (Tryz.envOK (S:=S) 21 (fun _=>([],[])) fs407 fs407_ok) l.length (fun _=>True) (fun i=>[(5,.int .i64 (cntL (l.take i) h:Nat)),(10,.int .i64 i)]) (fun _ _=>σ) [] (by kernel_rfl) rfl (by simp[upd,ins,subF,lookA,cntL]) trivial ?_ ?_
 ·intro i j hi _ ih
  have hx:=hel _ (List.getElem_mem hi)
  have hidx:idx (l.map ints1) (i:Int)=some (ints1 l[i]):=idx_nat hi
  have hsu:cntL (l.take (i+1)) h=cntL (l.take i) h+if l[i].contains h then 1 else 0:=by
   unfold cntL
   rw[List.take_succ_eq_append_getElem hi,List.filter_append,List.length_append]
   cases hc:l[i].contains h
   ·simp only[List.filter_cons,hc,List.filter_nil,Bool.false_eq_true,if_false,List.length_nil]
   ·simp only[List.filter_cons,hc,List.filter_nil,if_true,List.length_cons,List.length_nil]
  have hle:cntL (l.take i) h≤i:=by unfold cntL;exact Nat.le_trans (List.length_filter_le _ _) (by simp;omega)
  rw[hsu] at ih
  generalize cntL (l.take i) h=n at *
  generalize l[i]=x at *
  cases hc:x.contains h
  ·rw[hc] at ih
   simp -implicitDefEqProofs (maxSteps:=9^9) (disch:=omega) only[go_sem,simprocAttr,hidx,ints1,hc]
   exact(ih trivial []).castS rfl (by simp[upd,ins,subF,lookA])
  ·rw[hc] at ih
   simp -implicitDefEqProofs (maxSteps:=9^9) (disch:=omega) only[go_sem,simprocAttr,hidx,ints1,hc]
   exact(ih trivial []).castS rfl (by simp[upd,ins,subF,lookA])
 ·intro j _
  rw[List.take_length]
  simp -implicitDefEqProofs (maxSteps:=9^9) (disch:=omega) only[go_sem,simprocAttr]
def isHandE(hands h:Int):Int:=if 0≤h∧h≤IntKind.i64.wrap (hands-1) then 0 else 3
def isDayE(d:Int):Int:=if 0≤d∧d≤60 then 0 else 1
theorem isHand_p(r:Ros)(h:Int):PureV S 87 [r.av,.int .i64 h] (.int .i64 (isHandE r.hands h)):=by
 refine PvE (Tryz.envOK (S:=S) 11 (fun _=>([],[])) fs407 fs407_ok) (.int) Tryz.kp87 Tryz.func87 rfl ?_
 intro σ
 simp only[Ros.av]
 by_cases c:0≤h∧h≤IntKind.i64.wrap (r.hands-1)
 ·have d:decide (0≤h∧h≤IntKind.i64.wrap (r.hands-1))=true:=decide_eq_true c
  rw[show isHandE r.hands h=0 from if_pos c]
  simp -implicitDefEqProofs (maxSteps:=9^9) (disch:=omega) only[go_sem,simprocAttr,d]
 ·have d:decide (0≤h∧h≤IntKind.i64.wrap (r.hands-1))=false:=decide_eq_false c
  rw[show isHandE r.hands h=3 from if_neg c]
  simp -implicitDefEqProofs (maxSteps:=9^9) (disch:=omega) only[go_sem,simprocAttr,d]
theorem isDay_p(h:Int):PureV S 93 [.int .i64 h] (.int .i64 (isDayE h)):=by
 refine PvE (Tryz.envOK (S:=S) 6 (fun _=>([],[])) fs407 fs407_ok) (.int) Tryz.kp93 Tryz.func93 rfl ?_
 intro σ
 by_cases c:0≤h∧h≤60
 ·have d:decide (0≤h∧h≤60)=true:=decide_eq_true c
  rw[show isDayE h=0 from if_pos c]
  simp -implicitDefEqProofs (maxSteps:=9^9) (disch:=omega) only[go_sem,simprocAttr,d]
 ·have d:decide (0≤h∧h≤60)=false:=decide_eq_false c
  rw[show isDayE h=1 from if_neg c]
  simp -implicitDefEqProofs (maxSteps:=9^9) (disch:=omega) only[go_sem,simprocAttr,d]
end Go.Proofs
namespace Go.Proofs
open Go Go.Mu Go.Ins
def fewL(r:Ros):List (List Int):=if knownE r []=0 then setsL (explR r (entsL r)) else[]
theorem setsL_len(L:List (List Int)):(setsL L).length=(driftsL L).length:=by
 unfold setsL;rw[(isort_perm _).length_eq,List.length_map]
theorem setsL_el{L:List (List Int)}{x:List Int}(h:x∈setsL L):x.length≤4:=by
 obtain⟨s,_,rfl⟩:=List.mem_map.1 ((isort_perm _).mem_iff.1 h)
 exact listN_len s
theorem fewL_plain(r:Ros):Plain (.tup [.list .no 1 ((fewL r).map ints1),.int .i64 (knownE r [])]):= .tup (by
 simp only[List.mem_cons,List.not_mem_nil,or_false,forall_eq_or_imp,forall_eq]
 exact⟨.map fun x _=>Plain.cells_list (ints1_good x).2,.int⟩)
theorem explR_ne{r:Ros}{ws:List Int}(h:knownE r ws=0):explR r (entsL r)≠[]:=by
 intro e
 unfold knownE at h
 by_cases h1:rosE r≠0
 ·rw[if_pos h1] at h;exact h1 h
 ·rw[if_neg h1] at h
  by_cases h2:firstNZ ws≠0
  ·rw[if_pos h2] at h;exact h2 h
  ·rw[if_neg h2,if_pos e] at h;cases h
theorem fewest_p(r:Ros)(hf:r.Fit):PureV SBes 22 [r.av] (.tup [.list .no 1 ((fewL r).map ints1),.int .i64 (knownE r [])]):=by
 refine PvE (Tryz.envOK (S:=SBes) 18 (fun _=>([],[])) fs405 fs405_ok) (fewL_plain r) Tryz.kp22 Tryz.func22 rfl ?_
 intro σ
 simp only[Ros.av]
 simp -implicitDefEqProofs (maxSteps:=9^9) (disch:=omega) only[go_sem,simprocAttr]
 refine ACalls.weaken (l':=[r.av,.list .no 1 (([]:List Int).map (.int .i64))]) ⟨⟨rfl,rfl,rfl,rfl,⟨rfl,.inl rfl,.inl rfl⟩,⟨rfl,.inl rfl,.inl rfl⟩,trivial⟩,⟨rfl,.inr rfl,.inl rfl⟩,trivial⟩ ?_
 refine known_c r hf [] (by simp) (fun hE j=>?_) (fun hO hg a j ha hm=>?_)
 ·have hE':(knownE r []=0)=False:=eq_false hE
  rw[show fewL r=[] from if_neg hE]
  simp -implicitDefEqProofs (maxSteps:=9^9) (disch:=omega) only[go_sem,simprocAttr,hE',rosZ]
 ·rw[show fewL r=setsL (explR r (entsL r)) from if_pos hO,hO]
  simp only[Ros.wav]
  simp -implicitDefEqProofs (maxSteps:=9^9) (disch:=omega) only[go_sem,simprocAttr]
  refine sets_c (explR r (entsL r)) (fun x hx=>(explR_ok hg.toHead hx).len) (explR_ne hO) (by have:=explR_len hg.toHead (ds:=entsL r);omega) (by have:=drifts_few hg.toHead (entsL r);omega) (a:=a) (by have:=hgetA (l:=[AObj.cells (r.wcells (entsL r))]) hm;simpa[Ros.wcells] using this) ?_
  simp -implicitDefEqProofs (maxSteps:=9^9) (disch:=omega) only[go_sem,simprocAttr]
end Go.Proofs
namespace Go.Proofs
open Go Go.Mu Go.Ins
variable {S:MC Tryz.prog}
def errF(f:List Int→Int)(m:Int×Int)(x:List Int):Int×Int:=(if f x<m.1 then f x else m.1,if m.2<f x then f x else m.2)
def errsL(r:Ros)(L:List (List Int))(h d:Int):Int×Int:=L.foldl (errF fun x=>offX r x h d) (100000, -100000)
theorem errF_comm(f:List Int→Int)(m:Int×Int)(x y:List Int):errF f (errF f m x) y=errF f (errF f m y) x:=by
 unfold errF
 simp only[Prod.mk.injEq]
 constructor
 ·repeat' split
  all_goals omega
 ·repeat' split
  all_goals omega
theorem errF_perm{f:List Int→Int}{m:Int×Int}{L M:List (List Int)}(h:L.Perm M):L.foldl (errF f) m=M.foldl (errF f) m:=
 h.foldl_eq' (fun x _ y _ z=>errF_comm f z x y) m
theorem errF_in{f:List Int→Int}:∀(L:List (List Int)) (m:Int×Int),(∀x∈L, -300≤f x∧f x≤300)→(-300≤m.1∧m.1≤100000∧ -100000≤m.2∧m.2≤300)→ -300≤(L.foldl (errF f) m).1∧(L.foldl (errF f) m).1≤100000∧ -100000≤(L.foldl (errF f) m).2∧(L.foldl (errF f) m).2≤300
 | [],m,_,h=>h
 | x::L,m,hf,h=>by
  have hx:=hf x (by simp)
  refine errF_in L _ (fun y hy=>hf y (by simp[hy])) ?_
  unfold errF
  simp only
  refine⟨?_,?_,?_,?_⟩<;> split<;> omega
theorem pair_plain(a b:Int):Plain (.agg [.int .i64 a,.int .i64 b]):= .agg (by simp only[List.mem_cons,List.not_mem_nil,or_false,forall_eq_or_imp,forall_eq];exact⟨.int,.int⟩)
theorem errs_p(r:Ros)(ds:List (List Int))(hr:r.Head)(L:List (List Int))(hL:∀x∈L,OkX r x)(hlen:L.length≤1000000)(h d:Int)(hh:0≤h∧h<4)(hd:0≤d∧d≤60){a:Nat}{σ:List AObj}(ha:hget σ a=some (.map (mapX L))){Q:AV→List AObj→Prop}(hQ:Q (.agg [.int .i64 (errsL r L h d).1,.int .i64 (errsL r L h d).2]) σ) :
  ACalls S 94 [r.wav ds,.map a,.int .i64 h,.int .i64 d] σ Q:=by
 refine ACalls.clean_ev (E:=Tryz.E (S:=S) 41 Tryz.ord94 fs405) (Tryz.envOK (S:=S) 41 Tryz.ord94 fs405 fs405_ok) (pair_plain _ _ _) (hQ) Tryz.kp94 Tryz.func94 rfl (by kernel_rfl) (by simp[Tryz.E]) (Callable.of Tryz.func94 (by kernel_rfl) (by kernel_rfl)) (by kernel_rfl) ?_
 have hal:=hget_lt ha
 have hal1:∀l,hget (σ++l) a=some (.map (mapX L)):=fun l=>by rw[hget_app hal];exact ha
 have hml:(mapX L).length=L.length:=by simp[mapX]
 simp only[Ros.wav]
 simp -implicitDefEqProofs (maxSteps:=9^9) (disch:=omega) only[go_sem,simprocAttr]
 refine since_p r ds hr h d hd _ _ ?_
 have hfi:=@fromL_in r.sets h d hd.1
 simp -implicitDefEqProofs (maxSteps:=9^9) (disch:=omega) only[go_sem,simprocAttr,hal1,hml]
 refine ARun.loopJ (Tryz.envOK (S:=S) 41 Tryz.ord94 fs405 fs405_ok) (α:=List Nat) (fun a=>L.length-a.length) (fun seen τ=>(∃j,τ=σ++(.cells (r.wcells ds):: .cells [.int .i64 0,.int .i64 0]:: .cells [.int .i64 (errsL r (seen.map fun i=>L.getD i []) h d).1,.int .i64 (errsL r (seen.map fun i=>L.getD i []) h d).2]:: .iter (some a) L.length seen::j))∧seen.Nodup∧∀i∈seen,i<L.length) (fun seen=>[]) [] (by kernel_rfl) (by simp[upd,ins,subF,lookA]) ⟨⟨[],by simp[errsL,Ros.wcells]⟩,by simp,by simp⟩ ?_
 rintro seen τ ⟨⟨j,rfl⟩,hnd,hlt⟩ ih
 simp -implicitDefEqProofs (maxSteps:=9^9) (disch:=omega) only[go_sem,simprocAttr]
 refine nextA_intro (q:=a) (c:=L.length) (seen:=seen) (es:=mapX L) (by rw[hget_at];rfl) (hal1 _) hml.symm (fun i2 k v hi2 hns=>?_) (fun hall=>?_)
 ·obtain⟨x,hx,hkv⟩:∃x,L[i2]? = some x∧(rtv x,AV.bool true)=(k,v):=by simpa[mapX] using hi2
  simp only[Prod.mk.injEq] at hkv
  obtain⟨rfl,rfl⟩:=hkv
  have hil:=(List.getElem?_eq_some_iff.1 hx).1
  have hxm:x∈L:=List.mem_of_getElem? hx
  have hok:=hL x hxm
  have hgd:L.getD i2 []=x:=by rw[List.getD_eq_getElem?_getD,hx];rfl
  have hgl:(seen++[i2]).getLast? = some i2:=by simp
  have hnd2:(seen++[i2]).Nodup:=by
   rw[List.nodup_append]
   exact⟨hnd,by simp,fun a ha b hb e=>by simp at hb;subst hb;exact hns (e▸ha)⟩
  have hlt2:∀i∈seen++[i2],i<L.length:=fun i hi=>by
   rcases List.mem_append.1 hi with hi | hi
   ·exact hlt i hi
   ·simp at hi;omega
  have hsl2:=seen_len hnd2 hlt2
  rw[List.length_append,List.length_singleton] at hsl2
  have ih2:=ih (seen++[i2])
  have hoff:=@offX_in r x hok h d hd
  have hmm:errsL r ((seen++[i2]).map fun i=>L.getD i []) h d=errF (fun x=>offX r x h d) (errsL r (seen.map fun i=>L.getD i []) h d) x:=by
   unfold errsL
   rw[List.map_append,List.foldl_append];simp only[List.map_cons,List.map_nil,hgd,List.foldl_cons,List.foldl_nil]
  rw[hmm] at ih2
  clear hmm
  have hEi:=errF_in (f:=fun x=>offX r x h d) (seen.map fun i=>L.getD i []) (100000, -100000) (fun y hy=>by
   obtain⟨i,hi,rfl⟩:=List.mem_map.1 hy
   have hi':=hlt i hi
   have:L.getD i []∈L:=by rw[List.getD_eq_getElem?_getD,List.getElem?_eq_getElem hi'];exact List.getElem_mem _
   exact offX_in (hL _ this) hd) (by decide)
  change -300≤(errsL r (seen.map fun i=>L.getD i []) h d).1∧(errsL r (seen.map fun i=>L.getD i []) h d).1≤100000∧ -100000≤(errsL r (seen.map fun i=>L.getD i []) h d).2∧(errsL r (seen.map fun i=>L.getD i []) h d).2≤300 at hEi
  generalize errsL r (seen.map fun i=>L.getD i []) h d=E at hEi ih2⊢
  have hxl:=hok.len
  have hw:IntKind.i64.wrap (tg x h*(d-fromL r.sets h d))=offX r x h d:=wrap64 (by unfold offX at hoff;omega) (by unfold offX at hoff;omega)
  obtain⟨b,c,e,f,hxe⟩:=len4 hok.len
  have hi3:(mapX L)[i2]? = some (.agg [.int .i64 b,.int .i64 c,.int .i64 e,.int .i64 f],.bool true):=by rw[hi2,hxe];rfl
  have hxx:[AV.int .i64 b,.int .i64 c,.int .i64 e,.int .i64 f]=x.map (AV.int .i64):=by rw[hxe];rfl
  rw[hxx] at hi3
  have hput:putAt 0 (x.map (AV.int .i64)) [.int .i64 0,.int .i64 0,.int .i64 0,.int .i64 0]=x.map (AV.int .i64):=by rw[hxe];rfl
  simp -implicitDefEqProofs (maxSteps:=9^9) (disch:=omega) only[go_sem,simprocAttr,hal1,hgl,hi3,hml,hw,hput]
  refine(ih2 _ (by rw[List.length_append,List.length_singleton];omega) ⟨⟨j++[.cells (x.map (.int .i64))],?_⟩,hnd2,hlt2⟩).castS rfl (by simp[upd,ins,subF,lookA])
  ·rfl
 ·have hall':∀i,i<L.length→i∈seen:=fun i hi=>hall i (by rw[hml];exact hi)
  have hps:=seen_perm ([]:List Int) hnd hlt hall'
  have he:errsL r (seen.map fun i=>L.getD i []) h d=errsL r L h d:=errF_perm hps
  rw[he]
  simp -implicitDefEqProofs (maxSteps:=9^9) (disch:=omega) only[go_sem,simprocAttr]
end Go.Proofs
