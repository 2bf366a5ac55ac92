/- Texts of a proof: lemmas. -/
import Derived.Test.YtgbdndlmdklefaaGreatHK32
import Derived.Test.YtgbdndlmdklefaaGreatHK27
set_option linter.unusedSimpArgs false
set_option linter.unusedVariables false
set_option maxRecDepth 100000
set_option maxHeartbeats 40000000
namespace Go.Proofs
open Go Go.Mu Go.Ins
variable {S:MC Tryz.prog}
theorem mu{σ:List aa}{r:Nat}{o:aa}(h:ai σ r=some o):ax σ r o=σ:=by
 unfold ai at h;unfold ax
 apply List.ext_getElem?
 intro k
 rw[List.getElem?_set]
 split
 ·rename_i e;subst e
  rw[if_pos (List.getElem?_eq_some_iff.1 h).1,h]
 ·rfl
theorem Fi{Z:List (List Int)}{i:Nat}(h:i<Z.length):(Z.map ar)[i]? = some (ar (at_ Z i)):=by
 rw[kn h];simp[h]
theorem RE(zs:List (List Int))(hz:0<zs.length)(hn:zs.length≤1000000)(hel:∀x∈zs,x.length≤1000000){σ:List aa}{r:Nat}(hg:ai σ r=some (.vec 1 (zs.map ar))){Q:AV→List aa→Prop}(h:Q (.tup []) (ax σ r (.vec 1 ((cu leL zs).map ar)))) :
  ao S 210 [.vec r zs.length,.int .i64 0,.int .i64 zs.length,.fn (.func 139) [] []] σ Q:=by
 refine AcE (Tryz.ah (S:=S) 53 Tryz.tF eJ dv) Tryz.MX Tryz.func210 rfl ?_
 simp -implicitDefEqProofs (maxSteps:=9^9) (disch:=omega) only[go_sem,simprocAttr]
 refine aj.kL (Tryz.ah (S:=S) 53 Tryz.tF eJ dv) (zs.length-1) (fun i τ=>∃Z:List (List Int),Z.Perm zs∧lB leL Z (i+1)∧τ=ax σ r (.vec 1 (Z.map ar))) (fun i=>[(8,.int .i64 ((i:Int)+1))]) (by kernel_rfl) (by simp[upd,ins,aw,ae]) ⟨zs,.refl _,lB.one,(mu hg).symm⟩ ?_ ?_
 ·rintro i τ hi ⟨Z,hp,hu,rfl⟩ ih
  have hwi:IntKind.i64.wrap ((i:Int)+1+1)=((i+1:Nat):Int)+1:=by rw[wrap64 (by omega) (by omega)];rfl
  simp -implicitDefEqProofs (maxSteps:=9^9) (disch:=omega) only[go_sem,simprocAttr]
  refine aj.eL (Tryz.ah (S:=S) 53 Tryz.tF eJ dv) (α:=Nat×List (List Int)) (fun a=>a.1) (fun a τ=>a.1≤i+1∧a.2.Perm zs∧iY leL a.2 (i+1) a.1∧τ=ax σ r (.vec 1 (a.2.map ar))) (fun a=>[(9,.int .i64 (a.1:Int))]) (i+1,Z) (by kernel_rfl) (by simp[upd,ins,aw,ae]) ⟨Nat.le_refl _,hp,hu.BY,rfl⟩ ?_
  clear hu hp
  rintro⟨j,Y⟩ τ ⟨hj,hp,hS,rfl⟩ ih2
  simp only at hj hp hS ih2⊢
  have hyl:Y.length=zs.length:=hp.length_eq
  have hgy:ai (ax σ r (.vec 1 (Y.map ar))) r=some (.vec 1 (Y.map ar)):=cN hg _
  cases j with
  | zero=>
   have hU:=hS.done gS (.inl rfl)
   simp -implicitDefEqProofs (maxSteps:=9^9) (disch:=omega) only[go_sem,simprocAttr,hwi]
   exact(ih _ ⟨Y,hp,hU,rfl⟩).ay rfl (by simp[upd,ins,aw,ae])
  | succ k=>
   have hk1:k+1<Y.length:=by omega
   have m1:(Y.map ar)[((k:Int)+1).toNat]? = some (ar (at_ Y (k+1))):=by rw[show((k:Int)+1).toNat=k+1 by omega];exact Fi hk1
   have t1:((k:Int)+1).toNat=k+1:=by omega
   have m0:=Fi (show k<Y.length by omega)
   have l1:(at_ Y (k+1)).length≤1000000:=by rw[kn hk1];exact hel _ (hp.mem_iff.1 (List.getElem_mem _))
   have l0:(at_ Y k).length≤1000000:=by rw[kn (by omega:k<Y.length)];exact hel _ (hp.mem_iff.1 (List.getElem_mem _))
   have hwk:IntKind.i64.wrap ((k:Int)+1-1)=(k:Int):=by rw[wrap64 (by omega) (by omega)];omega
   by_cases hlt:cI (at_ Y (k+1)) (at_ Y k)<0
   ·have hlt':(cI (at_ Y (k+1)) (at_ Y k)<0)=True:=eq_true hlt
    have hS2:=hS.step (by omega) hj (Int.le_of_lt hlt)
    have hp2:=(yC hk1).trans hp
    have hgs:∀W,ai (ax σ r (.vec 1 W)) r=some (.vec 1 W):=fun W=>cN hg _
    have m0s:∀v,((Y.map ar).set ((k:Int)+1).toNat v)[k]? = some (ar (at_ Y k)):=fun v=>by rw[List.getElem?_set_ne (by omega)];exact m0
    have hfin:((Y.map ar).set ((k:Int)+1).toNat (ar (at_ Y k))).set k (ar (at_ Y (k+1)))=(swp Y k).map ar:=by unfold swp;rw[List.map_set,List.map_set,t1]
    simp only[ar] at hfin
    simp -implicitDefEqProofs (maxSteps:=9^9) (disch:=omega) only[go_sem,simprocAttr,hgs,m1,m0,m0s,hlt',hwk,ar,List.length_set]
    exact(ih2 (k,swp Y k) _ (Nat.lt_succ_self k) ⟨by omega,hp2,hS2,by rw[hfin]⟩).ay rfl (by simp[upd,ins,aw,ae])
   ·have hlt':(cI (at_ Y (k+1)) (at_ Y k)<0)=False:=eq_false hlt
    have hU:=hS.done gS (.inr ⟨k,rfl,by unfold leL;rw[mj];omega⟩)
    simp -implicitDefEqProofs (maxSteps:=9^9) (disch:=omega) only[go_sem,simprocAttr,hgy,m1,m0,hlt',hwk,hwi,ar]
    exact(ih _ ⟨Y,hp,hU,rfl⟩).ay rfl (by simp[upd,ins,aw,ae])
 ·rintro τ ⟨Z,hp,hu,rfl⟩
  have hzl:Z.length=zs.length:=hp.length_eq
  rw[show zs.length-1+1=Z.length by omega] at hu
  have he:=iM gS mB (fun a b=>sf) hu.pairwise hp
  rw[← he] at h
  simp -implicitDefEqProofs (maxSteps:=9^9) (disch:=omega) only[go_sem,simprocAttr]
  exact h
theorem Qn(zs:List (List Int))(hz:0<zs.length)(hn:zs.length≤12)(hel:∀x∈zs,x.length≤1000000){lim:Int}{σ:List aa}{r:Nat}(hg:ai σ r=some (.vec 1 (zs.map ar))){Q:AV→List aa→Prop}(h:Q (.tup []) (ax σ r (.vec 1 ((cu leL zs).map ar)))) :
  ao S 179 [.vec r zs.length,.int .i64 0,.int .i64 zs.length,.int .i64 lim,.fn (.func 139) [] []] σ Q:=by
 refine AcE (Tryz.ah (S:=S) 148 Tryz.yp eJ dv) Tryz.M3 Tryz.func179 rfl ?_
 simp -implicitDefEqProofs (maxSteps:=9^9) (disch:=omega) only[go_sem,simprocAttr]
 refine aj.once (Tryz.ah (S:=S) 148 Tryz.yp eJ dv) (by kernel_rfl) ?_
 have h12:((zs.length:Int)≤12)=True:=eq_true (by omega)
 simp -implicitDefEqProofs (maxSteps:=9^9) (disch:=omega) only[go_sem,simprocAttr,h12]
 refine RE zs hz (by omega) hel hg ?_
 simp -implicitDefEqProofs (maxSteps:=9^9) (disch:=omega) only[go_sem,simprocAttr]
 exact h
theorem OY(zs:List (List Int))(hz:0<zs.length)(hn:zs.length≤12)(hel:∀x∈zs,x.length≤1000000){σ:List aa}{r:Nat}(hg:ai σ r=some (.vec 1 (zs.map ar))){Q:AV→List aa→Prop}(h:Q (.tup []) (ax σ r (.vec 1 ((cu leL zs).map ar)))) :
  ao S 138 [.vec r zs.length,.fn (.func 139) [] []] σ Q:=by
 refine AcE (Tryz.ah (S:=S) 14 (fun _=>([],[])) eJ dv) Tryz.Mp Tryz.func138 rfl ?_
 have hw:IntKind.u64.wrap (zs.length:Int)=zs.length:=by unfold IntKind.wrap;simp[IntKind.signed,IntKind.bits];omega
 simp -implicitDefEqProofs (maxSteps:=9^9) (disch:=omega) only[go_sem,simprocAttr]
 rw[hw]
 refine DU zs.length hz (by omega) _ _ ?_
 simp -implicitDefEqProofs (maxSteps:=9^9) (disch:=omega) only[go_sem,simprocAttr]
 refine Qn zs hz hn hel hg ?_
 simp -implicitDefEqProofs (maxSteps:=9^9) (disch:=omega) only[go_sem,simprocAttr]
 exact h
end Go.Proofs
namespace Go.Proofs
open Go Go.Mu Go.Ins
def oo:AV:= .agg [.int .i64 0,.int .i64 0,.int .i64 0,.int .i64 0,.list .full 0 [],.list .full 0 [],.list .full 0 []]
def aC(r:Ros)(ws:List Int):Int:=if bP r≠0 then bP r else if bn ws≠0 then bn ws else if aE r (aq r)=[] then 11 else 0
theorem Ab{l:List Int}{i:Nat}(h:i<l.length):bn (l.drop i)=if l[i]=0 then bn (l.drop (i+1)) else l[i]:=by rw[List.drop_eq_getElem_cons h];rfl
theorem gH{r:Ros}(hr:r.Head){ds:List (List Int)}:(aE r ds).length≤16*14641:=by
 have key:∀n k,(fO r ds n k).length≤16*14641:=by
  intro n
  induction n with
  | zero=>intro k;simp[fO]
  | succ n ih=>
   intro k
   simp only[fO]
   split
   ·exact ih _
   ·refine Nat.le_trans (rV _ _) ?_
    have h1:=sD hr (ds:=ds) (many:=k) (2^r.hands.toNat)
    have hh:=hr.hands
    have hp:(2:Nat)^r.hands.toNat≤2^4:=Nat.pow_le_pow_right (by omega) (by omega)
    have h2:eD r ds k (2^r.hands.toNat)=cf r ds k:=rfl
    rw[h2] at h1
    simp only[List.length_nil]
    omega
 exact key _ _
theorem gm(r:Ros)(hf:r.Fit)(ws:List Int)(hws:ws.length≤1000){σ:List aa}{Q:AV→List aa→Prop}
  (hE:aC r ws≠0→∀j,Q (.tup [oo,.nilmap,.int .i64 (aC r ws)]) (σ++j))
  (hO:aC r ws=0→r.Good→∀a j,σ.length≤a→ai (σ++j) a=some (.map (bh (aE r (aq r))))→Q (.tup [r.wav (aq r),.map a,.int .i64 0]) (σ++j)) :
  ao aV 84 [r.av,.list .no 1 (ws.map (.int .i64))] σ Q:=by
 refine AcE (Tryz.ah (S:=aV) 40 (fun _=>([],[])) fs0 aD) Tryz.R7 Tryz.func84 rfl ?_
 by_cases hh:bX r=0
 ·by_cases he:gA r=0
  ·have hg:=r.uX hh he
   have hro:bP r=0:=by unfold bP;rw[if_neg (fun h=>h hh)];exact he
   have hkE:aC r ws=if bn ws≠0 then bn ws else if aE r (aq r)=[] then 11 else 0:=by unfold aC;rw[if_neg (fun h=>h hro)]
   simp only[Ros.av]
   simp -implicitDefEqProofs (maxSteps:=9^9) (disch:=omega) only[go_sem,simprocAttr]
   refine qI r hh (by have:=hf.sets;omega) (hf.ok hh) _ _ ?_
   rw[he]
   simp only[Ros.wav]
   simp -implicitDefEqProofs (maxSteps:=9^9) (disch:=omega) only[go_sem,simprocAttr]
   refine aj.zq ws.length (fun i τ=>bn (ws.drop i)=bn ws∧τ=σ++[.cells [.int .i64 r.hands,.int .i64 r.skill,.int .i64 r.mn,.int .i64 r.mx,.list .no 2 (r.sets.map Sg.av),.list .no 6 (r.ents.map Tn.av)],.cells [.int .i64 0,.int .i64 0,.int .i64 0,.int .i64 0,.list .full 0 [],.list .full 0 [],.list .full 0 []],.cells (r.az (aq r))]) (fun i=>[(23,.int .i64 i)]) (by simp[upd,ins,aw,ae]) ⟨by simp,by simp[Ros.az]⟩ ?_ ?_
   ·rintro i τ hi ⟨hp,rfl⟩ ih
    rw[Ab hi] at hp
    refine aR (Tryz.ah (S:=aV) 40 (fun _=>([],[])) fs0 aD) (n:=1000) (by kernel_rfl) ?_
    by_cases hz:ws[i]=0
    ·rw[if_pos hz] at hp
     simp -implicitDefEqProofs (maxSteps:=9^9) (disch:=omega) only[go_sem,simprocAttr,hz]
     exact(ih _ ⟨hp,rfl⟩).ay rfl (by simp[upd,ins,aw,ae])
    ·rw[if_neg hz] at hp
     have hz':(ws[i]=0)=False:=eq_false hz
     have hk1:aC r ws=ws[i]:=by rw[hkE,← hp,if_pos hz]
     simp -implicitDefEqProofs (maxSteps:=9^9) (disch:=omega) only[go_sem,simprocAttr,hz']
     have:=hE (by rw[hk1];exact hz)
     rw[hk1] at this
     exact this _
   ·rintro τ ⟨hp,rfl⟩
    rw[List.drop_length] at hp
    have hf0:bn ws=0:=hp.symm
    refine aR (Tryz.ah (S:=aV) 40 (fun _=>([],[])) fs0 aD) (n:=9) (by kernel_rfl) ?_
    simp -implicitDefEqProofs (maxSteps:=9^9) (disch:=omega) only[go_sem,simprocAttr,Ros.az]
    refine P4 r (aq r) hg.work fun j2=>?_
    simp only[List.append_assoc,List.cons_append,List.nil_append,List.length_append,List.length_cons,List.length_nil,Nat.zero_add,Nat.reduceAdd,Nat.add_assoc]
    simp -implicitDefEqProofs (maxSteps:=9^9) (disch:=omega) only[go_sem,simprocAttr,Ros.az]
    change aj _ _ _ _ _ _
    refine aj.BZ (Tryz.ah (S:=aV) 40 (fun _=>([],[])) fs0 aD) 1 ?_
    have hml:(bh (aE r (aq r))).length=(aE r (aq r)).length:=by simp[bh]
    by_cases hz:aE r (aq r)=[]
    ·have hk1:aC r ws=11:=by rw[hkE,hf0,if_neg (by simp),if_pos hz]
     have hl0:(aE r (aq r)).length=0:=by rw[hz];rfl
     simp -implicitDefEqProofs (maxSteps:=9^9) (disch:=omega) only[go_sem,simprocAttr,Ros.az,hml,hl0]
     refine aR (Tryz.ah (S:=aV) 40 (fun _=>([],[])) fs0 aD) (n:=1000) (by kernel_rfl) ?_
     simp -implicitDefEqProofs (maxSteps:=9^9) (disch:=omega) only[go_sem,simprocAttr,Ros.az,hml,hl0]
     have:=hE (by rw[hk1];decide)
     rw[hk1] at this
     exact this _
    ·have hk1:aC r ws=0:=by rw[hkE,hf0,if_neg (by simp),if_neg hz]
     have hpos:0<(aE r (aq r)).length:=List.length_pos_iff.2 hz
     have hl0:(((aE r (aq r)).length:Int)=0)=False:=by simp;exact hz
     have hO':=hO hk1 hg
     simp -implicitDefEqProofs (maxSteps:=9^9) (disch:=omega) only[go_sem,simprocAttr,Ros.az,hml,hl0]
     refine aR (Tryz.ah (S:=aV) 40 (fun _=>([],[])) fs0 aD) (n:=1000) (by kernel_rfl) ?_
     simp -implicitDefEqProofs (maxSteps:=9^9) (disch:=omega) only[go_sem,simprocAttr,Ros.az,hml,hl0]
     exact hO' (σ.length+4) _ (by omega) (by simp[aZ])
  ·have hro:bP r≠0:=by unfold bP;rw[if_neg (fun h=>h hh)];exact he
   have hk1:aC r ws=gA r:=by unfold aC;rw[if_pos hro];unfold bP;rw[if_neg (fun h=>h hh)]
   have he':(gA r=0)=False:=eq_false he
   simp only[Ros.av]
   simp -implicitDefEqProofs (maxSteps:=9^9) (disch:=omega) only[go_sem,simprocAttr]
   refine qI r hh (by have:=hf.sets;omega) (hf.ok hh) _ _ ?_
   simp only[Ros.wav]
   simp -implicitDefEqProofs (maxSteps:=9^9) (disch:=omega) only[go_sem,simprocAttr,he']
   have:=hE (by rw[hk1];exact he)
   rw[hk1] at this
   exact this _
 ·have hro:bP r≠0:=by unfold bP;rw[if_pos hh];exact hh
  have hk1:aC r ws=bX r:=by unfold aC;rw[if_pos hro];unfold bP;rw[if_pos hh]
  have hh':(bX r=0)=False:=eq_false hh
  simp only[Ros.av]
  simp -implicitDefEqProofs (maxSteps:=9^9) (disch:=omega) only[go_sem,simprocAttr]
  refine zh r hh (by have:=hf.sets;omega) (by have:=hf.ents;omega) _ _ ?_
  simp only[Ros.wav]
  simp -implicitDefEqProofs (maxSteps:=9^9) (disch:=omega) only[go_sem,simprocAttr,hh']
  have:=hE (by rw[hk1];exact hh)
  rw[hk1] at this
  exact this _
end Go.Proofs
namespace Go.Proofs
open Go Go.Mu Go.Ins
variable {S:MC Tryz.prog}
def kE(l:List Nat):List (AV×AV):=l.map fun(s:Nat)=>(.int .u64 (s:Int),.bool true)
theorem Vz(a b:Nat):eV (.int .u64 (a:Int)) (.int .u64 (b:Int))=some (decide (a=b)):=by
 simp only[eV,if_true,Option.some.injEq]
 rw[Bool.eq_iff_iff]
 simp[Int.ofNat_inj]
theorem xh{s:Nat}:∀{m:List Nat} {i:Nat},(s∉m→bw (.int .u64 (s:Int)) (kE m) i=some none)∧(s∈m→∃j,bw (.int .u64 (s:Int)) (kE m) i=some (some (j,.bool true)))
 | [],i=>⟨fun _=>rfl,fun h=>by simp at h⟩
 | y::m,i=>by
  obtain⟨h1,h2⟩:=@xh s m (i+1)
  simp only[kE,List.map_cons,bw,Vz] at h1 h2⊢
  by_cases e:s=y
  ·subst e
   rw[decide_eq_true rfl]
   exact⟨fun h=>absurd (by simp) h,fun _=>⟨i,rfl⟩⟩
  ·rw[decide_eq_false e]
   exact⟨fun h=>h1 (fun hm=>h (by simp[hm])),fun h=>h2 ((List.mem_cons.1 h).resolve_left e)⟩
theorem MH{s:Nat}{m:List Nat}{σ:List aa}:gy false (.bool false) σ (bw (.int .u64 (s:Int)) (kE m) 0)=some (.bool (decide (s∈m)),σ):=by
 by_cases h:s∈m
 ·obtain⟨j,hj⟩:=(@xh s m 0).2 h
  rw[hj,decide_eq_true h];rfl
 ·rw[(@xh s m 0).1 h,decide_eq_false h];rfl
theorem Vi{s:Nat}{m:List Nat}{r:Nat}{σ:List aa}(h:s∉m):fL r (kE m) (.int .u64 (s:Int)) (.bool true) σ (bw (.int .u64 (s:Int)) (kE m) 0)=some (.tup [],ax σ r (.map (kE (m++[s])))):=by
 rw[(@xh s m 0).1 h]
 simp[fL,kE]
def bO(L:List (List Int)):List Nat:=(L.map fa).foldl cM []
def mv(L:List (List Int)):List (List Int):=cu leL ((bO L).map df)
theorem yJ{L M:List (List Int)}(h:∀s,(∃x∈L,fa x=s)↔∃x∈M,fa x=s):(bO L).Perm (bO M):=by
 unfold bO
 rw[List.perm_ext_iff_of_nodup (jx List.nodup_nil) (jx List.nodup_nil)]
 intro s
 simp only[fB,List.not_mem_nil,false_or,List.mem_map]
 exact h s
theorem w8{a b:List (List Int)}(h:a.Perm b):cu leL a=cu leL b:=
 iM gS mB (fun x y=>sf) (eZ gS mB a) ((de a).trans h)
theorem zG{L:List (List Int)}{x:List Int}:bO (L++[x])=cM (bO L) (fa x):=by
 unfold bO;rw[List.map_append,List.foldl_append];rfl
theorem pc(s:Nat):(df s).length≤4:=by
 unfold df;rw[List.length_map];exact Nat.le_trans (List.length_filter_le _ _) (by simp)
theorem QW(L:List (List Int))(hL:∀x∈L,x.length=4)(hne:L≠[])(hlen:L.length≤1000000)(h12:(bO L).length≤12){a:Nat}{σ:List aa}(ha:ai σ a=some (.map (bh L))){Q:AV→List aa→Prop}(hQ:Q (.list .no 1 ((mv L).map ar)) σ) :
  ao S 85 [.map a] σ Q:=by
 refine ao.clean ?_
 refine ao.Td ?_
 refine AcE (Tryz.ah (S:=S) 30 (fun _=>([],[])) eJ dv) Tryz.Q4 Tryz.func85 rfl ?_
 have hal:=aN ha
 have hal1:∀l,ai (σ++l) a=some (.map (bh L)):=fun l=>by rw[aB hal];exact ha
 have hml:(bh L).length=L.length:=by simp[bh]
 simp -implicitDefEqProofs (maxSteps:=9^9) (disch:=omega) only[go_sem,simprocAttr,hal1,hml]
 refine aj.pQ 4 1 (sz0:=0) rfl (by simp[ae]) ?_
 simp only[ins,↓reduceIte,List.append_assoc,List.cons_append,List.nil_append,List.length_append,List.length_cons,List.length_nil,Nat.zero_add,Nat.reduceEqDiff,Nat.reduceAdd]
 refine aj.eL (Tryz.ah (S:=S) 30 (fun _=>([],[])) eJ dv) (α:=List Nat) (fun a=>L.length-a.length) (fun seen τ=>(∃j,τ=σ++(.map (kE (bO (seen.map fun i=>L.getD i []))):: .iter (some a) L.length seen:: .vec 1 ((bO (seen.map fun i=>L.getD i [])).map fun s=>ar (df s))::j))∧seen.Nodup∧∀i∈seen,i<L.length) (fun seen=>[(4,.vec (σ.length+2) (bO (seen.map fun i=>L.getD i [])).length)]) [] (by kernel_rfl) (by simp[upd,ins,aw,ae,bO]) ⟨⟨[],by simp[bO,kE]⟩,by simp,by simp⟩ ?_
 rintro seen τ ⟨⟨j,rfl⟩,hnd,hlt⟩ ih
 have hsl:=eE hnd hlt
 have hdl:(bO (seen.map fun i=>L.getD i [])).length≤seen.length:=by
  have:=rV ((seen.map fun i=>L.getD i []).map fa) ([]:List Nat)
  simpa[bO] using this
 simp -implicitDefEqProofs (maxSteps:=9^9) (disch:=omega) only[go_sem,simprocAttr]
 refine fy (q:=a) (c:=L.length) (seen:=seen) (es:=bh L) (by rw[aZ];rfl) (hal1 _) hml.symm (fun i2 k v hi2 hns=>?_) (fun hall=>?_)
 ·obtain⟨x,hx,hkv⟩:∃x,L[i2]? = some x∧(rtv x,AV.bool true)=(k,v):=by simpa[bh] using hi2
  simp only[Prod.mk.injEq] at hkv
  obtain⟨rfl,rfl⟩:=hkv
  have hil:=(List.getElem?_eq_some_iff.1 hx).1
  have hxm:x∈L:=List.mem_of_getElem? hx
  have hgd:L.getD i2 []=x:=by rw[List.getD_eq_getElem?_getD,hx];rfl
  have hgl:(seen++[i2]).getLast? = some i2:=by simp
  have hnd2:(seen++[i2]).Nodup:=by
   rw[List.nodup_append]
   exact⟨hnd,by simp,fun a ha b hb e=>by simp at hb;subst hb;exact hns (e▸ha)⟩
  have hlt2:∀i∈seen++[i2],i<L.length:=fun i hi=>by
   rcases List.mem_append.1 hi with hi | hi
   ·exact hlt i hi
   ·simp at hi;omega
  have hsl2:=eE hnd2 hlt2
  rw[List.length_append,List.length_singleton] at hsl2
  have ih2:=ih (seen++[i2])
  have hmm:(seen++[i2]).map (fun i=>L.getD i [])=seen.map (fun i=>L.getD i [])++[x]:=by rw[List.map_append];simp only[List.map_cons,List.map_nil,hgd]
  rw[hmm,zG] at ih2
  clear hmm
  generalize bO (seen.map fun i=>L.getD i [])=S at hdl ih2⊢
  obtain⟨b,c,d,e,rfl⟩:=mF (hL x hxm)
  simp only[rtv,List.map_cons,List.map_nil] at hi2
  have hs16:=Iq [b,c,d,e]
  simp -implicitDefEqProofs (maxSteps:=9^9) (disch:=omega) only[go_sem,simprocAttr,hal1,hgl,hi2,hml]
  refine DJ [b,c,d,e] rfl _ _ ?_
  generalize fa [b,c,d,e]=s at hs16 ih2⊢
  by_cases hm:s∈S
  ·have hlk:∀σ,gy false (.bool false) σ (bw (.int .u64 (s:Int)) (kE S) 0)=some (.bool true,σ):=fun _=>by rw[MH,decide_eq_true hm]
   rw[show cM S s=S from if_pos hm] at ih2
   simp -implicitDefEqProofs (maxSteps:=9^9) (disch:=omega) only[go_sem,simprocAttr,hal1,hgl,hi2,hml,hlk]
   refine(ih2 _ (by rw[List.length_append,List.length_singleton];omega) ⟨⟨j++[.cells [.int .i64 b,.int .i64 c,.int .i64 d,.int .i64 e]],rfl⟩,hnd2,hlt2⟩).ay rfl (by simp[upd,ins,aw,ae])
  ·have hlk:∀σ,gy false (.bool false) σ (bw (.int .u64 (s:Int)) (kE S) 0)=some (.bool false,σ):=fun _=>by rw[MH,decide_eq_false hm]
   have hup:=fun(r:Nat) (σ:List aa)=>@Vi s S r σ hm
   rw[show cM S s=S++[s] from if_neg hm] at ih2
   simp -implicitDefEqProofs (maxSteps:=9^9) (disch:=omega) only[go_sem,simprocAttr,hal1,hgl,hi2,hml,hlk,hup]
   refine FC s hs16 _ _ ?_
   simp -implicitDefEqProofs (maxSteps:=9^9) (disch:=omega) only[go_sem,simprocAttr,hal1,hgl,hi2,hml,ar]
   refine(ih2 _ (by rw[List.length_append,List.length_singleton];omega) ⟨⟨j++[.cells [.int .i64 b,.int .i64 c,.int .i64 d,.int .i64 e]],rfl⟩,hnd2,hlt2⟩).ay (by simp[ar]) (by simp[upd,ins,aw,ae])
 ·have hall':∀i,i<L.length→i∈seen:=fun i hi=>hall i (by rw[hml];exact hi)
  have hps:=kA ([]:List Int) hnd hlt hall'
  have hpd:(bO (seen.map fun i=>L.getD i [])).Perm (bO L):=yJ fun s=>⟨fun⟨x,hx,e⟩=>⟨x,hps.mem_iff.1 hx,e⟩,fun⟨x,hx,e⟩=>⟨x,hps.mem_iff.2 hx,e⟩⟩
  have hpos:0<(bO L).length:=by
   obtain⟨x,hx⟩:=List.exists_mem_of_ne_nil _ hne
   exact List.length_pos_iff.2 (List.ne_nil_of_mem (fB.2 (.inr (List.mem_map.2 ⟨x,hx,rfl⟩)):fa x∈bO L))
  have hso:cu leL ((bO (seen.map fun i=>L.getD i [])).map df)=mv L:=w8 (hpd.map df)
  rw[← hpd.length_eq] at h12 hpos
  rw[← hso] at hQ
  clear hpd hso hps ih
  generalize bO (seen.map fun i=>L.getD i [])=T at *
  have e2:(T.map fun s=>ar (df s))=(T.map df).map ar:=by rw[List.map_map];rfl
  have e1:T.length=(T.map df).length:=by simp
  have hel:∀x∈T.map df,x.length≤1000000:=fun x hx=>by
   obtain⟨s,_,rfl⟩:=List.mem_map.1 hx
   have:=pc s;omega
  rw[e2,e1]
  rw[e1] at h12 hpos
  generalize T.map df=zs at *
  simp -implicitDefEqProofs (maxSteps:=9^9) (disch:=omega) only[go_sem,simprocAttr]
  refine OY zs hpos h12 hel (by rw[aZ];rfl) ?_
  simp -implicitDefEqProofs (maxSteps:=9^9) (disch:=omega) only[go_sem,simprocAttr]
  refine⟨σ.length+2,1,(cu leL zs).map ar,by rw[List.length_map,(de zs).length_eq],by rw[aZ];rfl,_,_,fI,dI.refl _,?_,hQ⟩
  exact(Plain.map fun y _=>Plain.fY (cA y).2) _
end Go.Proofs
namespace Go.Proofs
open Go Go.Mu Go.Ins
theorem wF{r:Ros}(hr:r.Head){s:Nat}(hs:s<2^r.hands.toNat){u:List Int}(hu:u∈gR r s):fa u=s:=by
 obtain⟨_,_,g1,g2⟩:=oJ hr hu
 have hh:=hr.hands
 apply Nat.eq_of_testBit_eq
 intro i
 rw[fa,dM]
 by_cases hi:i<r.hands.toNat
 ·have h4:i<4:=by omega
  have:=g1 i hi
  rw[decide_eq_true h4,Bool.true_and]
  by_cases hb:s.testBit i=true
  ·rw[hb,decide_eq_true (this.2 hb)]
  ·rw[Bool.eq_false_iff.2 hb]
   exact decide_eq_false fun h=>hb (this.1 h)
 ·have h0:=g2 i (by omega)
  have hsb:s.testBit i=false:=Nat.testBit_lt_two_pow (Nat.lt_of_lt_of_le hs (Nat.pow_le_pow_right (by omega) (by omega)))
  rw[hsb,decide_eq_false (p:=tg u i≠0) (by simp[h0]),Bool.and_false]
theorem sQ{r:Ros}{ds:List (List Int)}:∀(n k:Nat),(fO r ds n k=[]∧∀j,k≤j→j<k+n→cf r ds j=[])∨∃m,k≤m∧m<k+n∧fO r ds n k=(cf r ds m).foldl cM []∧cf r ds m≠[]∧∀j,k≤j→j<m→cf r ds j=[]
 | 0,k=> .inl ⟨rfl,fun j h1 h2=>by omega⟩
 | n+1,k=>by
  simp only[fO]
  by_cases h:cf r ds k=[]
  ·rw[if_pos h]
   rcases sQ (r:=r) (ds:=ds) n (k+1) with⟨h1,h2⟩ | ⟨m,h1,h2,h3,h4,h5⟩
   ·refine .inl ⟨h1,fun j g1 g2=>?_⟩
    by_cases e:j=k
    ·subst e;exact h
    ·exact h2 j (by omega) (by omega)
   ·refine .inr ⟨m,by omega,by omega,h3,h4,fun j g1 g2=>?_⟩
    by_cases e:j=k
    ·subst e;exact h
    ·exact h5 j (by omega) g2
  ·rw[if_neg h]
   exact .inr ⟨k,Nat.le_refl _,by omega,rfl,h,fun j g1 g2=>by omega⟩
theorem kW(r:Ros)(ds:List (List Int)):(aE r ds=[]∧∀j,j≤r.hands.toNat→cf r ds j=[])∨∃m,m≤r.hands.toNat∧aE r ds=(cf r ds m).foldl cM []∧cf r ds m≠[]∧∀j,j<m→cf r ds j=[]:=by
 rcases sQ (r:=r) (ds:=ds) (r.hands.toNat+1) 0 with⟨h1,h2⟩ | ⟨m,h1,h2,h3,h4,h5⟩
 ·exact .inl ⟨h1,fun j hj=>h2 j (by omega) (by omega)⟩
 ·exact .inr ⟨m,by omega,h3,h4,fun j hj=>h5 j (by omega) hj⟩
theorem jy{r:Ros}(hr:r.Head){ds:List (List Int)}{m:Nat}{u:List Int}:u∈cf r ds m↔∃s,s<2^r.hands.toNat∧eB s=m∧u∈dw r ds s:=by
 unfold cf eD
 simp only[List.mem_flatMap,List.mem_filter,List.mem_range,beq_iff_eq]
 exact⟨fun⟨s,⟨h1,h2⟩,h3⟩=>⟨s,h1,h2,h3⟩,fun⟨s,h1,h2,h3⟩=>⟨s,⟨h1,h2⟩,h3⟩⟩
theorem vQ{r:Ros}(hr:r.Head){ds:List (List Int)}{m:Nat}{u:List Int}(h:u∈cf r ds m):eB (fa u)=m∧fa u<2^r.hands.toNat∧u∈dw r ds (fa u):=by
 obtain⟨s,h1,h2,h3⟩:=(jy hr).1 h
 rw[wF hr h1 (List.mem_filter.1 h3).1]
 exact⟨h2,h1,h3⟩
theorem Gr{α:Type}[DecidableEq α]{T F:List α}(hT:T.Nodup)(hF:F.Nodup)(h:∀x∈T,x∈F):T.length≤F.length:=by
 have h1:T.Perm (F.filter fun i=>decide (i∈T)):=by
  rw[List.perm_ext_iff_of_nodup hT (hF.filter _)]
  intro i
  rw[List.mem_filter,decide_eq_true_eq]
  exact⟨fun g=>⟨h i g,g⟩,fun g=>g.2⟩
 rw[h1.length_eq]
 exact List.length_filter_le _ _
theorem PV:∀m,((List.range 16).filter fun s=>eB s==m).length≤6:=by
 intro m
 have e:((List.range 16).filter fun s=>eB s==m)=(List.range 16).filter fun s=>kF s==m:=List.filter_congr fun s hs=>by
  rw[gZ s (by have:=List.mem_range.1 hs;omega)]
 rw[e]
 by_cases hm:m≤4
 ·rcases(by omega:m=0∨m=1∨m=2∨m=3∨m=4) with rfl | rfl | rfl | rfl | rfl<;> decide +kernel
 ·have:((List.range 16).filter fun s=>kF s==m)=[]:=by
   rw[List.filter_eq_nil_iff]
   intro s hs
   have h2:∀s∈List.range 16,kF s≤4:=by decide +kernel
   have:=h2 s hs
   simp;omega
  rw[this];simp
theorem tL{r:Ros}(hr:r.Head)(ds:List (List Int)):(bO (aE r ds)).length≤6:=by
 have hh:=hr.hands
 rcases kW r ds with⟨h1,_⟩ | ⟨m,_,h1,_,_⟩
 ·rw[h1];simp[bO]
 ·refine Nat.le_trans (Gr (jx List.nodup_nil) (List.nodup_range.filter _) (F:=(List.range 16).filter fun s=>eB s==m) fun s hs=>?_) (PV m)
  rcases fB.1 hs with h | h
  ·simp at h
  obtain⟨x,hx,rfl⟩:=List.mem_map.1 h
  rw[h1] at hx
  have hx':x∈cf r ds m:=(fB.1 hx).resolve_left (by simp)
  have:=vQ hr hx'
  rw[List.mem_filter,List.mem_range,beq_iff_eq]
  have hp:(2:Nat)^r.hands.toNat≤2^4:=Nat.pow_le_pow_right (by omega) (by omega)
  exact⟨by omega,this.1⟩
theorem pF{r:Ros}{ds:List (List Int)}{m:Nat}(h:aE r ds=(cf r ds m).foldl cM []){u:List Int}:u∈aE r ds↔u∈cf r ds m:=by
 rw[h,fB];simp
end Go.Proofs
namespace Go.Proofs
open Go Go.Mu Go.Ins
variable {S:MC Tryz.prog}
def gW(l:List Int)(x:Int):Int:=if x∈l then(l.idxOf x:Int) else -1
theorem Gg{l:List Int}{x:Int}{i:Nat}(hi:i<l.length)(h:x∉l.take i)(e:l[i]=x):gW l x=i:=by
 have hm:x∈l:=by rw[← e];exact List.getElem_mem _
 unfold gW
 rw[if_pos hm]
 have hs:l=l.take i++l[i]::l.drop (i+1):=by rw[← List.drop_eq_getElem_cons hi,List.take_append_drop]
 have:l.idxOf x=i:=by
  conv=>lhs;rw[hs]
  rw[List.idxOf_append,if_neg h,e]
  simp[List.idxOf_cons];omega
 rw[this]
theorem xe{l:List Int}{x:Int}:decide (0≤gW l x)=l.contains x:=by
 unfold gW
 by_cases h:x∈l
 ·rw[if_pos h];simp[h]
 ·rw[if_neg h];simp[h]
theorem AP{l:List Int}{x:Int}{i:Nat}(hi:i<l.length)(h:x∉l.take i)(e:l[i]≠x):x∉l.take (i+1):=by
 rw[List.take_succ_eq_append_getElem hi,List.mem_append]
 intro hm
 rcases hm with hm | hm
 ·exact h hm
 ·simp at hm;exact e hm.symm
theorem GV(l:List Int)(x:Int)(hl:l.length≤4294967296):al S 181 [.list .no 1 (l.map (.int .i64)),.int .i64 x] (.int .i64 (gW l x)):=by
 refine PvE (Tryz.ah (S:=S) 19 (fun _=>([],[])) fs0 aD) (.int) Tryz.MA Tryz.func181 rfl ?_
 intro σ
 simp -implicitDefEqProofs (maxSteps:=9^9) (disch:=omega) only[go_sem,simprocAttr]
 refine aj.bE (Tryz.ah (S:=S) 19 (fun _=>([],[])) fs0 aD) l.length (fun i=>x∉l.take i) (fun i=>[(8,.int .i64 i)]) (fun _ _=>σ) [] (by kernel_rfl) rfl (by simp[upd,ins,aw,ae]) (by simp) ?_ ?_
 ·intro i j hi hp ih
  have hli:idx (l.map (AV.int .i64)) (i:Int)=some (.int .i64 l[i]):=by rw[bu hi]
  have hat:=Gg (x:=x) hi hp
  have hns:=AP (x:=x) hi hp
  generalize l[i]=y at hli hat hns
  clear hp
  by_cases hy:x=y
  ·rw[hat hy.symm]
   simp -implicitDefEqProofs (maxSteps:=9^9) (disch:=omega) only[go_sem,simprocAttr,hli]
  ·simp -implicitDefEqProofs (maxSteps:=9^9) (disch:=omega) only[go_sem,simprocAttr,hli]
   exact(ih (hns fun e=>hy e.symm) []).ay rfl (by simp[upd,ins,aw,ae])
 ·intro j hp
  rw[List.take_length] at hp
  have:gW l x= -1:=by unfold gW;rw[if_neg hp]
  rw[this]
  simp -implicitDefEqProofs (maxSteps:=9^9) (disch:=omega) only[go_sem,simprocAttr]
def pA:=cW tIs tI fun l x=>if l.length≤4294967296 then some (.int .i64 (gW l x)) else none
theorem Eb:∀xs v,pA xs=some v→al S 181 xs v:=
 cj fun l x v h=>by have h:=b7 h;rw[← h.2];exact GV l x h.1
def ua(f:FuncId)(xs:List AV):Option AV:=if f=181 then pA xs else eJ f xs
theorem z7{S:MC Tryz.prog}:∀f xs v,ua f xs=some v→al S f xs v:=by
 intro f xs v h
 unfold ua at h
 split at h
 ·rename_i e;subst e;exact Eb _ _ h
 exact dv _ _ _ h
attribute [go_sem] ua pA
theorem zz(l:List Int)(x:Int)(hl:l.length≤4294967296):al S 140 [.list .no 1 (l.map (.int .i64)),.int .i64 x] (.bool (l.contains x)):=by
 refine PvE (Tryz.ah (S:=S) 9 (fun _=>([],[])) ua z7) (.bool) Tryz.Np Tryz.func140 rfl ?_
 intro σ
 have hd:=xe (l:=l) (x:=x)
 rw[← hd]
 clear hd
 generalize hz:gW l x=z
 by_cases h0:0≤z
 ·have e:decide (0≤z)=true:=by simpa using h0
  rw[e]
  simp -implicitDefEqProofs (maxSteps:=9^9) (disch:=omega) only[go_sem,simprocAttr,hz]
 ·have e:decide (0≤z)=false:=by simpa using h0
  rw[e]
  simp -implicitDefEqProofs (maxSteps:=9^9) (disch:=omega) only[go_sem,simprocAttr,hz]
def lZ:=cW tIs tI fun l x=>if l.length≤4294967296 then some (.bool (l.contains x)) else none
theorem wR:∀xs v,lZ xs=some v→al S 140 xs v:=
 cj fun l x v h=>by have h:=b7 h;rw[← h.2];exact zz l x h.1
def dk(f:FuncId)(xs:List AV):Option AV:=if f=140 then lZ xs else ua f xs
theorem cx{S:MC Tryz.prog}:∀f xs v,dk f xs=some v→al S f xs v:=by
 intro f xs v h
 unfold dk at h
 split at h
 ·rename_i e;subst e;exact wR _ _ h
 exact z7 _ _ _ h
attribute [go_sem] dk lZ
def ec(l:List (List Int))(h:Int):Nat:=(l.filter fun s=>s.contains h).length
theorem K7(l:List (List Int))(h:Int)(hl:l.length≤1000000)(hel:∀x∈l,x.length≤1000000):al S 86 [.list .no 1 (l.map ar),.int .i64 h] (.int .i64 (ec l h)):=by
 refine PvE (Tryz.ah (S:=S) 21 (fun _=>([],[])) dk cx) (.int) Tryz.RO Tryz.func86 rfl ?_
 intro σ
 simp -implicitDefEqProofs (maxSteps:=9^9) (disch:=omega) only[go_sem,simprocAttr]
 refine aj.bE (Tryz.ah (S:=S) 21 (fun _=>([],[])) dk cx) l.length (fun _=>True) (fun i=>[(5,.int .i64 (ec (l.take i) h:Nat)),(10,.int .i64 i)]) (fun _ _=>σ) [] (by kernel_rfl) rfl (by simp[upd,ins,aw,ae,ec]) trivial ?_ ?_
 ·intro i j hi _ ih
  have hx:=hel _ (List.getElem_mem hi)
  have hidx:idx (l.map ar) (i:Int)=some (ar l[i]):=bu hi
  have hsu:ec (l.take (i+1)) h=ec (l.take i) h+if l[i].contains h then 1 else 0:=by
   unfold ec
   rw[List.take_succ_eq_append_getElem hi,List.filter_append,List.length_append]
   cases hc:l[i].contains h
   ·simp only[List.filter_cons,hc,List.filter_nil,Bool.false_eq_true,if_false,List.length_nil]
   ·simp only[List.filter_cons,hc,List.filter_nil,if_true,List.length_cons,List.length_nil]
  have hle:ec (l.take i) h≤i:=by unfold ec;exact Nat.le_trans (List.length_filter_le _ _) (by simp;omega)
  rw[hsu] at ih
  generalize ec (l.take i) h=n at *
  generalize l[i]=x at *
  cases hc:x.contains h
  ·rw[hc] at ih
   simp -implicitDefEqProofs (maxSteps:=9^9) (disch:=omega) only[go_sem,simprocAttr,hidx,ar,hc]
   exact(ih trivial []).ay rfl (by simp[upd,ins,aw,ae])
  ·rw[hc] at ih
   simp -implicitDefEqProofs (maxSteps:=9^9) (disch:=omega) only[go_sem,simprocAttr,hidx,ar,hc]
   exact(ih trivial []).ay rfl (by simp[upd,ins,aw,ae])
 ·intro j _
  rw[List.take_length]
  simp -implicitDefEqProofs (maxSteps:=9^9) (disch:=omega) only[go_sem,simprocAttr]
def aM(hands h:Int):Int:=if 0≤h∧h≤IntKind.i64.wrap (hands-1) then 0 else 3
def iu(d:Int):Int:=if 0≤d∧d≤60 then 0 else 1
theorem iI(r:Ros)(h:Int):al S 87 [r.av,.int .i64 h] (.int .i64 (aM r.hands h)):=by
 refine PvE (Tryz.ah (S:=S) 11 (fun _=>([],[])) dk cx) (.int) Tryz.Sf Tryz.func87 rfl ?_
 intro σ
 simp only[Ros.av]
 by_cases c:0≤h∧h≤IntKind.i64.wrap (r.hands-1)
 ·have d:decide (0≤h∧h≤IntKind.i64.wrap (r.hands-1))=true:=decide_eq_true c
  rw[show aM r.hands h=0 from if_pos c]
  simp -implicitDefEqProofs (maxSteps:=9^9) (disch:=omega) only[go_sem,simprocAttr,d]
 ·have d:decide (0≤h∧h≤IntKind.i64.wrap (r.hands-1))=false:=decide_eq_false c
  rw[show aM r.hands h=3 from if_neg c]
  simp -implicitDefEqProofs (maxSteps:=9^9) (disch:=omega) only[go_sem,simprocAttr,d]
theorem PJ(h:Int):al S 93 [.int .i64 h] (.int .i64 (iu h)):=by
 refine PvE (Tryz.ah (S:=S) 6 (fun _=>([],[])) dk cx) (.int) Tryz.Q5 Tryz.func93 rfl ?_
 intro σ
 by_cases c:0≤h∧h≤60
 ·have d:decide (0≤h∧h≤60)=true:=decide_eq_true c
  rw[show iu h=0 from if_pos c]
  simp -implicitDefEqProofs (maxSteps:=9^9) (disch:=omega) only[go_sem,simprocAttr,d]
 ·have d:decide (0≤h∧h≤60)=false:=decide_eq_false c
  rw[show iu h=1 from if_neg c]
  simp -implicitDefEqProofs (maxSteps:=9^9) (disch:=omega) only[go_sem,simprocAttr,d]
end Go.Proofs
namespace Go.Proofs
open Go Go.Mu Go.Ins
def dV(r:Ros):List (List Int):=if aC r []=0 then mv (aE r (aq r)) else[]
theorem FF(L:List (List Int)):(mv L).length=(bO L).length:=by
 unfold mv;rw[(de _).length_eq,List.length_map]
theorem Ji{L:List (List Int)}{x:List Int}(h:x∈mv L):x.length≤4:=by
 obtain⟨s,_,rfl⟩:=List.mem_map.1 ((de _).mem_iff.1 h)
 exact pc s
theorem Fe(r:Ros):Plain (.tup [.list .no 1 ((dV r).map ar),.int .i64 (aC r [])]):= .tup (by
 simp only[List.mem_cons,List.not_mem_nil,or_false,forall_eq_or_imp,forall_eq]
 exact⟨.map fun x _=>Plain.fY (cA x).2,.int⟩)
theorem LN{r:Ros}{ws:List Int}(h:aC r ws=0):aE r (aq r)≠[]:=by
 intro e
 unfold aC at h
 by_cases h1:bP r≠0
 ·rw[if_pos h1] at h;exact h1 h
 ·rw[if_neg h1] at h
  by_cases h2:bn ws≠0
  ·rw[if_pos h2] at h;exact h2 h
  ·rw[if_neg h2,if_pos e] at h;cases h
theorem yy(r:Ros)(hf:r.Fit):al aV 22 [r.av] (.tup [.list .no 1 ((dV r).map ar),.int .i64 (aC r [])]):=by
 refine PvE (Tryz.ah (S:=aV) 18 (fun _=>([],[])) eJ dv) (Fe r) Tryz.QM Tryz.func22 rfl ?_
 intro σ
 simp only[Ros.av]
 simp -implicitDefEqProofs (maxSteps:=9^9) (disch:=omega) only[go_sem,simprocAttr]
 refine ao.weaken (l':=[r.av,.list .no 1 (([]:List Int).map (.int .i64))]) ⟨⟨rfl,rfl,rfl,rfl,⟨rfl,.inl rfl,.inl rfl⟩,⟨rfl,.inl rfl,.inl rfl⟩,trivial⟩,⟨rfl,.inr rfl,.inl rfl⟩,trivial⟩ ?_
 refine gm r hf [] (by simp) (fun hE j=>?_) (fun hO hg a j ha hm=>?_)
 ·have hE':(aC r []=0)=False:=eq_false hE
  rw[show dV r=[] from if_neg hE]
  simp -implicitDefEqProofs (maxSteps:=9^9) (disch:=omega) only[go_sem,simprocAttr,hE',oo]
 ·rw[show dV r=mv (aE r (aq r)) from if_pos hO,hO]
  simp only[Ros.wav]
  simp -implicitDefEqProofs (maxSteps:=9^9) (disch:=omega) only[go_sem,simprocAttr]
  refine QW (aE r (aq r)) (fun x hx=>(zi hg.toHead hx).len) (LN hO) (by have:=gH hg.toHead (ds:=aq r);omega) (by have:=tL hg.toHead (aq r);omega) (a:=a) (by have:=fD (l:=[aa.cells (r.az (aq r))]) hm;simpa[Ros.az] using this) ?_
  simp -implicitDefEqProofs (maxSteps:=9^9) (disch:=omega) only[go_sem,simprocAttr]
end Go.Proofs
namespace Go.Proofs
open Go Go.Mu Go.Ins
variable {S:MC Tryz.prog}
def jl(f:List Int→Int)(m:Int×Int)(x:List Int):Int×Int:=(if f x<m.1 then f x else m.1,if m.2<f x then f x else m.2)
def b8(r:Ros)(L:List (List Int))(h d:Int):Int×Int:=L.foldl (jl fun x=>cS r x h d) (100000, -100000)
theorem Gz(f:List Int→Int)(m:Int×Int)(x y:List Int):jl f (jl f m x) y=jl f (jl f m y) x:=by
 unfold jl
 simp only[Prod.mk.injEq]
 constructor
 ·repeat' split
  all_goals omega
 ·repeat' split
  all_goals omega
theorem Gh{f:List Int→Int}{m:Int×Int}{L M:List (List Int)}(h:L.Perm M):L.foldl (jl f) m=M.foldl (jl f) m:=
 h.foldl_eq' (fun x _ y _ z=>Gz f z x y) m
theorem vD{f:List Int→Int}:∀(L:List (List Int)) (m:Int×Int),(∀x∈L, -300≤f x∧f x≤300)→(-300≤m.1∧m.1≤100000∧ -100000≤m.2∧m.2≤300)→ -300≤(L.foldl (jl f) m).1∧(L.foldl (jl f) m).1≤100000∧ -100000≤(L.foldl (jl f) m).2∧(L.foldl (jl f) m).2≤300
 | [],m,_,h=>h
 | x::L,m,hf,h=>by
  have hx:=hf x (by simp)
  refine vD L _ (fun y hy=>hf y (by simp[hy])) ?_
  unfold jl
  simp only
  refine⟨?_,?_,?_,?_⟩<;> split<;> omega
theorem sL(a b:Int):Plain (.agg [.int .i64 a,.int .i64 b]):= .agg (by simp only[List.mem_cons,List.not_mem_nil,or_false,forall_eq_or_imp,forall_eq];exact⟨.int,.int⟩)
theorem IV(r:Ros)(ds:List (List Int))(hr:r.Head)(L:List (List Int))(hL:∀x∈L,OkX r x)(hlen:L.length≤1000000)(h d:Int)(hh:0≤h∧h<4)(hd:0≤d∧d≤60){a:Nat}{σ:List aa}(ha:ai σ a=some (.map (bh L))){Q:AV→List aa→Prop}(hQ:Q (.agg [.int .i64 (b8 r L h d).1,.int .i64 (b8 r L h d).2]) σ) :
  ao S 94 [r.wav ds,.map a,.int .i64 h,.int .i64 d] σ Q:=by
 refine ao.jS (E:=Tryz.E (S:=S) 41 Tryz.xI eJ) (Tryz.ah (S:=S) 41 Tryz.xI eJ dv) (sL _ _ _) (hQ) Tryz.QE Tryz.func94 rfl (by kernel_rfl) (by simp[Tryz.E]) (aW.of Tryz.func94 (by kernel_rfl) (by kernel_rfl)) (by kernel_rfl) ?_
 have hal:=aN ha
 have hal1:∀l,ai (σ++l) a=some (.map (bh L)):=fun l=>by rw[aB hal];exact ha
 have hml:(bh L).length=L.length:=by simp[bh]
 simp only[Ros.wav]
 simp -implicitDefEqProofs (maxSteps:=9^9) (disch:=omega) only[go_sem,simprocAttr]
 refine vE r ds hr h d hd _ _ ?_
 have hfi:=@jU r.sets h d hd.1
 simp -implicitDefEqProofs (maxSteps:=9^9) (disch:=omega) only[go_sem,simprocAttr,hal1,hml]
 refine aj.eL (Tryz.ah (S:=S) 41 Tryz.xI eJ dv) (α:=List Nat) (fun a=>L.length-a.length) (fun seen τ=>(∃j,τ=σ++(.cells (r.az ds):: .cells [.int .i64 0,.int .i64 0]:: .cells [.int .i64 (b8 r (seen.map fun i=>L.getD i []) h d).1,.int .i64 (b8 r (seen.map fun i=>L.getD i []) h d).2]:: .iter (some a) L.length seen::j))∧seen.Nodup∧∀i∈seen,i<L.length) (fun seen=>[]) [] (by kernel_rfl) (by simp[upd,ins,aw,ae]) ⟨⟨[],by simp[b8,Ros.az]⟩,by simp,by simp⟩ ?_
 rintro seen τ ⟨⟨j,rfl⟩,hnd,hlt⟩ ih
 simp -implicitDefEqProofs (maxSteps:=9^9) (disch:=omega) only[go_sem,simprocAttr]
 refine fy (q:=a) (c:=L.length) (seen:=seen) (es:=bh L) (by rw[aZ];rfl) (hal1 _) hml.symm (fun i2 k v hi2 hns=>?_) (fun hall=>?_)
 ·obtain⟨x,hx,hkv⟩:∃x,L[i2]? = some x∧(rtv x,AV.bool true)=(k,v):=by simpa[bh] using hi2
  simp only[Prod.mk.injEq] at hkv
  obtain⟨rfl,rfl⟩:=hkv
  have hil:=(List.getElem?_eq_some_iff.1 hx).1
  have hxm:x∈L:=List.mem_of_getElem? hx
  have hok:=hL x hxm
  have hgd:L.getD i2 []=x:=by rw[List.getD_eq_getElem?_getD,hx];rfl
  have hgl:(seen++[i2]).getLast? = some i2:=by simp
  have hnd2:(seen++[i2]).Nodup:=by
   rw[List.nodup_append]
   exact⟨hnd,by simp,fun a ha b hb e=>by simp at hb;subst hb;exact hns (e▸ha)⟩
  have hlt2:∀i∈seen++[i2],i<L.length:=fun i hi=>by
   rcases List.mem_append.1 hi with hi | hi
   ·exact hlt i hi
   ·simp at hi;omega
  have hsl2:=eE hnd2 hlt2
  rw[List.length_append,List.length_singleton] at hsl2
  have ih2:=ih (seen++[i2])
  have hoff:=@qu r x hok h d hd
  have hmm:b8 r ((seen++[i2]).map fun i=>L.getD i []) h d=jl (fun x=>cS r x h d) (b8 r (seen.map fun i=>L.getD i []) h d) x:=by
   unfold b8
   rw[List.map_append,List.foldl_append];simp only[List.map_cons,List.map_nil,hgd,List.foldl_cons,List.foldl_nil]
  rw[hmm] at ih2
  clear hmm
  have hEi:=vD (f:=fun x=>cS r x h d) (seen.map fun i=>L.getD i []) (100000, -100000) (fun y hy=>by
   obtain⟨i,hi,rfl⟩:=List.mem_map.1 hy
   have hi':=hlt i hi
   have:L.getD i []∈L:=by rw[List.getD_eq_getElem?_getD,List.getElem?_eq_getElem hi'];exact List.getElem_mem _
   exact qu (hL _ this) hd) (by decide)
  change -300≤(b8 r (seen.map fun i=>L.getD i []) h d).1∧(b8 r (seen.map fun i=>L.getD i []) h d).1≤100000∧ -100000≤(b8 r (seen.map fun i=>L.getD i []) h d).2∧(b8 r (seen.map fun i=>L.getD i []) h d).2≤300 at hEi
  generalize b8 r (seen.map fun i=>L.getD i []) h d=E at hEi ih2⊢
  have hxl:=hok.len
  have hw:IntKind.i64.wrap (tg x h*(d-cn r.sets h d))=cS r x h d:=wrap64 (by unfold cS at hoff;omega) (by unfold cS at hoff;omega)
  obtain⟨b,c,e,f,hxe⟩:=mF hok.len
  have hi3:(bh L)[i2]? = some (.agg [.int .i64 b,.int .i64 c,.int .i64 e,.int .i64 f],.bool true):=by rw[hi2,hxe];rfl
  have hxx:[AV.int .i64 b,.int .i64 c,.int .i64 e,.int .i64 f]=x.map (AV.int .i64):=by rw[hxe];rfl
  rw[hxx] at hi3
  have hput:putAt 0 (x.map (AV.int .i64)) [.int .i64 0,.int .i64 0,.int .i64 0,.int .i64 0]=x.map (AV.int .i64):=by rw[hxe];rfl
  simp -implicitDefEqProofs (maxSteps:=9^9) (disch:=omega) only[go_sem,simprocAttr,hal1,hgl,hi3,hml,hw,hput]
  refine(ih2 _ (by rw[List.length_append,List.length_singleton];omega) ⟨⟨j++[.cells (x.map (.int .i64))],?_⟩,hnd2,hlt2⟩).ay rfl (by simp[upd,ins,aw,ae])
  ·rfl
 ·have hall':∀i,i<L.length→i∈seen:=fun i hi=>hall i (by rw[hml];exact hi)
  have hps:=kA ([]:List Int) hnd hlt hall'
  have he:b8 r (seen.map fun i=>L.getD i []) h d=b8 r L h d:=Gh hps
  rw[he]
  simp -implicitDefEqProofs (maxSteps:=9^9) (disch:=omega) only[go_sem,simprocAttr]
end Go.Proofs
namespace Go.Proofs
open Go Go.Mu Go.Ins
def xC(F:List (List Int))(h:Int):Int:=if ec F h=F.length then 1 else if ec F h=0 then 2 else 3
def dN(F:List (List Int))(n:Nat):List Int:=(List.range n).map fun(h:Nat)=>xC F h
def jq(r:Ros):List Int:=if aC r []=0 then dN (dV r) r.hands.toNat else[]
theorem tr{F:List (List Int)}{n:Nat}:dN F (n+1)=dN F n++[xC F n]:=by unfold dN;rw[List.range_succ,List.map_append];rfl
theorem ej{r:Ros}{ws:List Int}(h:aC r ws=0):r.Good:=by
 have hr:bP r=0:=by
  unfold aC at h
  by_cases h1:bP r≠0
  ·rw[if_pos h1] at h;exact h
  ·exact Classical.byContradiction h1
 unfold bP at hr
 by_cases h2:bX r≠0
 ·rw[if_pos h2] at hr;exact absurd hr h2
 ·rw[if_neg h2] at hr
  exact Ros.uX (Classical.byContradiction h2) hr
theorem xR(r:Ros):(dV r).length≤6∧∀x∈dV r,x.length≤4:=by
 unfold dV
 split
 ·rename_i h
  refine⟨?_,fun x hx=>Ji hx⟩
  rw[FF]
  exact tL (ej h).toHead _
 ·simp
theorem uc(r:Ros)(hf:r.Fit):al aV 23 [r.av] (.tup [ar (jq r),.int .i64 (aC r [])]):=by
 refine PvE (Tryz.ah (S:=aV) 41 (fun _=>([],[])) dk cx) (.tup (by simp only[List.mem_cons,List.not_mem_nil,or_false,forall_eq_or_imp,forall_eq];exact⟨(cA _).2,.int⟩)) Tryz.Q2 Tryz.func23 rfl ?_
 intro σ
 simp only[Ros.av]
 simp -implicitDefEqProofs (maxSteps:=9^9) (disch:=omega) only[go_sem,simprocAttr]
 refine yy r hf _ _ ?_
 obtain⟨hF6,hF4⟩:=xR r
 by_cases hE:aC r []=0
 ·have hg:=ej hE
  have hh:=hg.hands
  have hH:(r.hands.toNat:Int)=r.hands:=by omega
  rw[show jq r=dN (dV r) r.hands.toNat from if_pos hE,hE]
  generalize dV r=F at hF6 hF4⊢
  simp -implicitDefEqProofs (maxSteps:=9^9) (disch:=omega) only[go_sem,simprocAttr]
  refine aj.ghost 6 1 (sz0:=0) rfl (by simp[ae]) ?_
  simp only[ins,↓reduceIte,Nat.reduceEqDiff,List.append_assoc,List.cons_append,List.nil_append,List.length_append,List.length_cons,List.length_nil,Nat.zero_add]
  refine aj.bE (Tryz.ah (S:=aV) 41 (fun _=>([],[])) dk cx) r.hands.toNat (fun _=>True) (fun i=>[(6,.list (.own (σ.length+1)) 1 ((dN F i).map (.int .i64))),(18,.int .i64 i)]) (fun i _=>σ++[.cells [.int .i64 r.hands,.int .i64 r.skill,.int .i64 r.mn,.int .i64 r.mx,.list .no 2 (r.sets.map Sg.av),.list .no 6 (r.ents.map Tn.av)],.tail (dN F i).length 1]) [] (by kernel_rfl) (by simp[dN]) (by simp[upd,ins,aw,ae,dN,hH]) trivial ?_ ?_
  ·intro i j hi _ ih
   have hcl:(dN F i).length=i:=by simp[dN]
   rw[tr] at ih
   have hwi:IntKind.i64.wrap ((i:Int)+1)=((i+1:Nat):Int):=by rw[wrap64 (by omega) (by omega)];rfl
   generalize dN F i=C at hcl ih⊢
   have hcv:xC F i=if ec F i=F.length then 1 else if ec F i=0 then 2 else 3:=rfl
   have hFe:∀x∈F,x.length≤1000000:=fun x hx=>by have:=hF4 x hx;omega
   simp -implicitDefEqProofs (maxSteps:=9^9) (disch:=omega) only[go_sem,simprocAttr]
   refine K7 F i (by omega) hFe _ _ ?_
   generalize ec F i=c at hcv⊢
   by_cases c1:c=F.length
   ·rw[if_pos c1] at hcv
    rw[hcv] at ih
    have c1':((c:Int)=F.length)=True:=eq_true (by omega)
    simp -implicitDefEqProofs (maxSteps:=9^9) (disch:=omega) only[go_sem,simprocAttr,c1',hcl,hwi]
    exact(ih trivial []).ay (by simp[hcl]) (by simp[upd,ins,aw,ae])
   ·rw[if_neg c1] at hcv
    have c1':((c:Int)=F.length)=False:=eq_false (by omega)
    by_cases c2:c=0
    ·rw[if_pos c2] at hcv
     rw[hcv] at ih
     have c2':((c:Int)=0)=True:=eq_true (by omega)
     simp -implicitDefEqProofs (maxSteps:=9^9) (disch:=omega) only[go_sem,simprocAttr,c1',c2',hcl,hwi]
     exact(ih trivial []).ay (by simp[hcl]) (by simp[upd,ins,aw,ae])
    ·rw[if_neg c2] at hcv
     rw[hcv] at ih
     have c2':((c:Int)=0)=False:=eq_false (by omega)
     simp -implicitDefEqProofs (maxSteps:=9^9) (disch:=omega) only[go_sem,simprocAttr,c1',c2',hcl,hwi]
     exact(ih trivial []).ay (by simp[hcl]) (by simp[upd,ins,aw,ae])
  ·intro j _
   simp -implicitDefEqProofs (maxSteps:=9^9) (disch:=omega) only[go_sem,simprocAttr,ar]
 ·have hE':(aC r []=0)=False:=eq_false hE
  rw[show jq r=[] from if_neg hE]
  simp -implicitDefEqProofs (maxSteps:=9^9) (disch:=omega) only[go_sem,simprocAttr,hE',ar]
theorem gT{r:Ros}(hg:r.Good):∀x∈aE r (aq r),OkX r x:=fun x hx=>zi hg.toHead hx
theorem jQ{r:Ros}{ws:List Int}{h:Int}(hk:aC r (aM r.hands h::ws)=0):0≤h∧h<r.hands:=by
 have hg:=ej hk
 have hh:=hg.hands
 have hz:bn (aM r.hands h::ws)=0:=by
  unfold aC at hk
  by_cases h1:bP r≠0
  ·rw[if_pos h1] at hk;exact absurd hk h1
  ·rw[if_neg h1] at hk
   exact Classical.byContradiction fun h2=>by rw[if_pos h2] at hk;exact h2 hk
 have h0:=kg hz (aM r.hands h) (by simp)
 unfold aM at h0
 rw[wrap64 (by omega) (by omega)] at h0
 split at h0
 ·omega
 ·cases h0
theorem nG{r:Ros}{ws:List Int}(hk:aC r ws=0):∀w∈ws,w=0:=by
 have hz:bn ws=0:=by
  unfold aC at hk
  by_cases h1:bP r≠0
  ·rw[if_pos h1] at hk;exact absurd hk h1
  ·rw[if_neg h1] at hk
   exact Classical.byContradiction fun h2=>by rw[if_pos h2] at hk;exact h2 hk
 exact kg hz
end Go.Proofs
