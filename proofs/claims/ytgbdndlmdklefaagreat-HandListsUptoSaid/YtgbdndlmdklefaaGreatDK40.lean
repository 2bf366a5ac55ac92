/- Texts of a proof: lemmas. -/
import Derived.Test.YtgbdndlmdklefaaGreatDK39
import Derived.Test.YtgbdndlmdklefaaGreatDK27
import Derived.Test.YtgbdndlmdklefaaGreatDK37
import Derived.Test.YtgbdndlmdklefaaGreatDK35
import Derived.Test.YtgbdndlmdklefaaGreatDK28
import Derived.Test.YtgbdndlmdklefaaGreatDK34
import Derived.Test.YtgbdndlmdklefaaGreatDK36
set_option linter.unusedSimpArgs false
set_option linter.unusedVariables false
set_option maxRecDepth 100000
set_option maxHeartbeats 40000000
namespace Go.Proofs
open Go Go.Mu Go.Ins
/-! The program's Explains, whatever is asked. -/
theorem explainsG_p(r:Ros)(hf:r.Fit)(l:List Int)(hn:l.length≤1000) :
  PureV SBes 47 [r.av,ints1 l] (.tup [.bool (explB r l),.int .i64 (explE r l)]):=by
 have hB:explB r l=(decide (explE r l=0)&&decide (htruthsR r (entsL r) (setN l)≠[])):=rfl
 have hE:explE r l=if rosE r≠0 then rosE r else firstE (hnE r.hands l) (List.range l.length):=rfl
 have hnn:=@explE_nn r l
 refine PvE (Tryz.envOK (S:=SBes) 54 (fun _=>([],[])) fs405 fs405_ok) (.tup (by simp only[List.mem_cons,List.not_mem_nil,or_false,forall_eq_or_imp,forall_eq];exact⟨.bool,.int⟩)) Tryz.kp47 Tryz.func47 rfl ?_
 intro σ
 by_cases hh0:headE r=0
 ·by_cases he0:entsE r=0
  ·have hro:rosE r=0:=by unfold rosE;rw[if_neg (fun c=>c hh0)];exact he0
   have hg:=r.good_of hh0 he0
   rw[if_neg (fun c=>c hro)] at hE
   have hhd:=hg.hands
   have hH:(r.hands.toNat:Int)=r.hands:=by omega
   have hlt:∀i,(∀x∈l.take i,0≤x∧x<r.hands)→setN (l.take i)<16:=fun i h=>by
    have h1:=setN_lt (l:=l.take i) (n:=r.hands.toNat) fun x hx=>by rw[hH];exact h x hx
    have hp:(2:Nat)^r.hands.toNat≤2^4:=Nat.pow_le_pow_right (by omega) (by omega)
    omega
   rw[hB]
   clear hB
   generalize explE r l=e at *
   simp only[Ros.av,ints1]
   simp -implicitDefEqProofs (maxSteps:=9^9) (disch:=omega) only[go_sem,simprocAttr]
   refine rosterOf_ok r hh0 (by have:=hf.sets;omega) (hf.ok hh0) _ _ ?_
   rw[he0]
   simp only[Ros.wav]
   simp -implicitDefEqProofs (maxSteps:=9^9) (disch:=omega) only[go_sem,simprocAttr]
   refine ARun.forS (Tryz.envOK (S:=SBes) 54 (fun _=>([],[])) fs405 fs405_ok) l.length (fun i=>firstE (hnE r.hands l) ((List.range l.length).drop i)=e∧∀x∈l.take i,0≤x∧x<r.hands) (fun i=>[(8,.int .u64 (setN (l.take i))),(21,.int .i64 i)]) (fun _ _=>σ++[.cells [.int .i64 r.hands,.int .i64 r.skill,.int .i64 r.mn,.int .i64 r.mx,.list .no 2 (r.sets.map Sg.av),.list .no 6 (r.ents.map Tn.av)],.cells (r.wcells (entsL r))]) [] (by kernel_rfl) (by simp[Ros.wcells]) (by simp[upd,ins,subF,lookA,setN]) ⟨by rw[hE];rfl,by simp⟩ ?_ ?_
   ·intro i j hi hp ih
    obtain⟨hp,hin⟩:=hp
    have hs:=hlt i hin
    rw[firstE_range hi] at hp
    rw[setN_succ hi] at ih
    have hta:l.take (i+1)=l.take i++[l[i]]:=List.take_succ_eq_append_getElem hi
    have htg:tg l i=l[i]:=by simp[tg,List.getD_eq_getElem?_getD,List.getElem?_eq_getElem hi]
    have hidx:idx (l.map (AV.int .i64)) (i:Int)=some (.int .i64 l[i]):=by rw[idx_nat hi]
    have hidp:0<i→idx (l.map (AV.int .i64)) ((i:Int)-1)=some (.int .i64 (tg l ((i:Int)-1))):=fun h=>idx_tg ⟨by omega,by omega⟩
    have hwi:IntKind.i64.wrap ((i:Int)+1)=((i+1:Nat):Int):=by rw[wrap64 (by omega) (by omega)];rfl
    have hwp:IntKind.i64.wrap ((i:Int)-1)=(i:Int)-1:=wrap64 (by omega) (by omega)
    have hw:IntKind.i64.wrap (r.hands-1)=r.hands-1:=wrap64 (by omega) (by omega)
    have hhe:hnE r.hands l i=if 0≤l[i]∧l[i]≤r.hands-1 then(if 0<i∧l[i]≤tg l ((i:Int)-1) then 5 else 0) else 3:=by unfold hnE;rw[htg]
    rw[hhe] at hp
    rw[hta] at ih
    clear hhe hE hta htg hlt
    generalize tg l ((i:Int)-1)=p at *
    generalize setN (l.take i)=s at *
    generalize l[i]=x at *
    by_cases c1:0≤x∧x≤r.hands-1
    ·rw[if_pos c1] at hp
     obtain⟨n,rfl⟩:∃n:Nat,x=n:=⟨x.toNat,by omega⟩
     rw[Int.toNat_natCast] at ih
     have hn4:n<4:=by omega
     have hin1:((n:Int)≤r.hands-1)=True:=eq_true (by omega)
     have hin2:∀y∈l.take i++[(n:Int)],0≤y∧y<r.hands:=fun y hy=>by
      rcases List.mem_append.1 hy with hy | hy
      ·exact hin y hy
      ·simp at hy;omega
     by_cases h0:0<i
     ·have h0':(0<(i:Int))=True:=eq_true (by omega)
      have hidp:=hidp h0
      by_cases c2:(n:Int)≤p
      ·have c2':=eq_true c2
       rw[if_pos (show 0<i∧(n:Int)≤p from⟨h0,c2⟩),if_neg (by decide)] at hp
       subst hp
       simp -implicitDefEqProofs (maxSteps:=9^9) (disch:=omega) only[go_sem,simprocAttr,hidx,hw,hin1,h0',hwp,hidp,c2']
      ·have c2':=eq_false c2
       rw[if_neg (show¬(0<i∧(n:Int)≤p) from fun c=>c2 c.2),if_pos rfl] at hp
       simp -implicitDefEqProofs (maxSteps:=9^9) (disch:=omega) only[go_sem,simprocAttr,hidx,hw,hin1,h0',hwp,hidp,c2',hwi]
       exact(ih ⟨hp,hin2⟩ []).castS (by simp[Ros.wcells]) (by simp[upd,ins,subF,lookA])
     ·have h0':(0<(i:Int))=False:=eq_false (by omega)
      rw[if_neg (show¬(0<i∧(n:Int)≤p) from fun c=>h0 c.1),if_pos rfl] at hp
      simp -implicitDefEqProofs (maxSteps:=9^9) (disch:=omega) only[go_sem,simprocAttr,hidx,hw,hin1,h0',hwi]
      exact(ih ⟨hp,hin2⟩ []).castS (by simp[Ros.wcells]) (by simp[upd,ins,subF,lookA])
    ·have c1':decide (0≤x∧x≤r.hands-1)=false:=decide_eq_false c1
     rw[if_neg c1,if_neg (by decide)] at hp
     subst hp
     simp -implicitDefEqProofs (maxSteps:=9^9) (disch:=omega) only[go_sem,simprocAttr,hidx,hw,c1']
   ·intro j hp
    obtain⟨hp,hin⟩:=hp
    have hs:=hlt l.length hin
    rw[List.take_length] at hs⊢
    have e0:e=0:=by
     rw[← hp]
     have:(List.range l.length).drop l.length=[]:=by simp
     rw[this];rfl
    subst e0
    have hlen:=htruthsR_len hg.toHead (ds:=entsL r) (s:=setN l)
    have hmap:((htruthsR r (entsL r) (setN l)).map rtv).length=(htruthsR r (entsL r) (setN l)).length:=by simp
    have hde2:decide (0<((htruthsR r (entsL r) (setN l)).length:Int))=decide (htruthsR r (entsL r) (setN l)≠[]):=by
     rw[decide_eq_decide,← List.length_pos_iff];omega
    simp -implicitDefEqProofs (maxSteps:=9^9) (disch:=omega) only[go_sem,simprocAttr,Ros.wcells]
    refine htruths_p r (entsL r) hg.work (setN l) hs _ _ ?_
    generalize htruthsR r (entsL r) (setN l)=T at hmap hde2 hlen⊢
    simp -implicitDefEqProofs (maxSteps:=9^9) (disch:=omega) only[go_sem,simprocAttr,hmap,hde2]
    by_cases hz:T=[]<;> simp[hz]
  ·have hro:rosE r=entsE r:=by unfold rosE;rw[if_neg (fun c=>c hh0)]
   have hne:rosE r≠0:=by rw[hro];exact he0
   rw[if_pos hne,hro] at hE
   rw[hB,hE,decide_eq_false he0,Bool.false_and]
   have he0':(entsE r=0)=False:=eq_false he0
   simp only[Ros.av,ints1]
   simp -implicitDefEqProofs (maxSteps:=9^9) (disch:=omega) only[go_sem,simprocAttr]
   refine rosterOf_ok r hh0 (by have:=hf.sets;omega) (hf.ok hh0) _ _ ?_
   simp only[Ros.wav]
   simp -implicitDefEqProofs (maxSteps:=9^9) (disch:=omega) only[go_sem,simprocAttr,he0']
 ·have hro:rosE r=headE r:=by unfold rosE;rw[if_pos hh0]
  have hne:rosE r≠0:=by rw[hro];exact hh0
  rw[if_pos hne,hro] at hE
  rw[hB,hE,decide_eq_false hh0,Bool.false_and]
  have hh0':(headE r=0)=False:=eq_false hh0
  simp only[Ros.av,ints1]
  simp -implicitDefEqProofs (maxSteps:=9^9) (disch:=omega) only[go_sem,simprocAttr]
  refine rosterOf_err r hh0 (by have:=hf.sets;omega) (by have:=hf.ents;omega) _ _ ?_
  simp only[Ros.wav]
  simp -implicitDefEqProofs (maxSteps:=9^9) (disch:=omega) only[go_sem,simprocAttr,hh0']
theorem pick_c(p n:Nat)(hn:n≤1000)(σ:List AObj)(hp:PotAt σ p)(Q:AV→List AObj→Prop)(h:∀s' (l:List Int) tk j,l.length≤1000→Q (.list tk 1 (l.map (.int .i64))) (pw σ p s'++j)):ACalls SBes 45 [.ptr p 0,.int .i64 n] σ Q:=by
 refine AcE (Tryz.envOK (S:=SBes) 19 (fun _=>([],[])) fs0 fs0_ok) Tryz.kp45 Tryz.func45 rfl ?_
 obtain⟨s0,hs0⟩:=pw_self hp
 have hpl:=hp.lt1
 simp -implicitDefEqProofs (maxSteps:=9^9) (disch:=omega) only[go_sem,simprocAttr]
 refine ARun.ghost 5 1 (sz0:=0) rfl (by simp[lookA]) ?_
 simp only[ins,↓reduceIte,List.append_assoc,List.cons_append,List.nil_append,List.length_append,List.length_cons,List.length_nil,Nat.zero_add,Nat.reduceEqDiff,Nat.reduceAdd]
 refine ARun.loopJ (Tryz.envOK (S:=SBes) 19 (fun _=>([],[])) fs0 fs0_ok) (α:=Nat×List Int) (fun q=>n-q.1) (fun q τ=>(∃s,τ=pw σ p s++[.tail q.2.length 1])∧q.1≤n∧q.2.length≤q.1) (fun q=>[(5,.list (.own σ.length) 1 (q.2.map (.int .i64))),(6,.int .i64 q.1)]) (0,[]) (by kernel_rfl) (by simp[upd,ins,subF,lookA]) ⟨⟨s0,by rw[hs0];rfl⟩,by simp,by simp⟩ ?_
 rintro⟨i,L⟩ τ ⟨⟨s,rfl⟩,hi,hL⟩ ih
 simp only at hi hL ih
 have hlp:(pw σ p s).length=σ.length:=hlength_pw
 by_cases hlt:i<n
 ·have hlt':((i:Int)<(n:Int))=True:=eq_true (by omega)
  have hwi:IntKind.i64.wrap ((i:Int)+1)=((i+1:Nat):Int):=by rw[wrap64 (by omega) (by omega)];rfl
  simp -implicitDefEqProofs (maxSteps:=9^9) (disch:=omega) only[go_sem,simprocAttr,hlt']
  refine odds_c p 1 2 (by omega) (by omega) _ (hp.pw _).app1 _ fun s5 b5=>?_
  rw[hpw_pwa hpl]
  have hl5:(pw σ p s5).length=σ.length:=hlength_pw
  have hg5:hget (pw σ p s5++[AObj.tail L.length 1]) σ.length=some (.tail L.length 1):=by rw[← hl5];exact hget_at0
  have hh5:hset (pw σ p s5++[AObj.tail L.length 1]) σ.length (.tail (L.length+1) 1)=pw σ p s5++[AObj.tail (L.length+1) 1]:=by rw[← hl5];exact hset_at0
  cases b5
  ·simp -implicitDefEqProofs (maxSteps:=9^9) (disch:=omega) only[go_sem,simprocAttr,hwi]
   exact(ih (i+1,L) _ (by simp only;omega) ⟨⟨s5,rfl⟩,by simp only;omega,by simp only;omega⟩).castS rfl (by simp[upd,ins,subF,lookA])
  ·simp -implicitDefEqProofs (maxSteps:=9^9) (disch:=omega) only[go_sem,simprocAttr,hwi,hg5,hh5]
   exact(ih (i+1,L++[(i:Int)]) _ (by simp only;omega) ⟨⟨s5,rfl⟩,by simp only;omega,by simp;omega⟩).castS (by simp) (by simp[upd,ins,subF,lookA])
 ·have hlt':((i:Int)<(n:Int))=False:=eq_false (by omega)
  simp -implicitDefEqProofs (maxSteps:=9^9) (disch:=omega) only[go_sem,simprocAttr,hlt']
  exact h s L _ _ (by omega)
theorem _root_.Go.Mu.ACalls.of_evN{E:Env}(n:Nat)(hE:EnvOK E){f:FuncId}{fn:Func}{c:Code}{args:List AV}{σ:List AObj}{Q:AV→List AObj→Prop}(kp:Nat→Bool)(hf:E.P.funcs[f]? = some fn)(hb:fn.body=some c)(hN:fn.ntmps=E.N)(hA:args.length≤E.N)
  (hC:Callable E.P f) (hO:todoOK E [.code c]=true)
  (h:ev E none n [.code c] ⟨kp,[],number 0 args⟩ σ (retPost E fn.results.toList Q)):ACalls E.S f args σ Q:=by
 refine ACalls.of_run hE kp hf hb hN hA hC ((ev_sound hE hO h).mono fun j fr σ' ⟨h1,h2⟩=>⟨h1,?_⟩)
 cases hr:resAs E fr σ' fn.results.toList with
 | none=>rw[hr] at h2;exact h2.elim
 | some vs=>rw[hr] at h2;exact⟨vs,rfl,h2⟩
theorem rosters_c(r:Ros)(x:Tn)(l:List Int)(hl:l.length≤4294967296)(σ:List AObj)(Q:AV→List AObj→Prop)(h:∀made rates by_ j,TrueR 3 4 3 made rates by_→Q (.list .no 6 ([r,made,made.snoc x].map Ros.av)) (σ++j)) :
  ACalls SBes 29 [r.av,x.av,.list .no 1 (l.map (.int .i64))] σ Q:=by
 refine ACalls.wkW ?_
 refine ACalls.of_evN 8 (E:=Tryz.E (S:=SBes) 28 (fun _=>([],[])) fs0) (Tryz.envOK (S:=SBes) 28 (fun _=>([],[])) fs0 fs0_ok) Tryz.kp29 Tryz.func29 rfl (by kernel_rfl) (by simp[Tryz.E]) (Callable.of Tryz.func29 (by kernel_rfl) (by kernel_rfl)) (by kernel_rfl) ?_
 obtain⟨hands,skill,mn,mx,sets,ents⟩:=r
 obtain⟨day,hand,due,ear⟩:=x
 obtain⟨sl,ts,rs⟩:=ear
 simp only[Ros.av,Tn.av,Tn.cells]
 simp -implicitDefEqProofs (maxSteps:=9^9) (disch:=omega) only[go_sem,simprocAttr]
 refine newPot_c l .no hl _ _ fun s1 j1=>?_
 simp -implicitDefEqProofs (maxSteps:=9^9) (disch:=omega) only[go_sem,simprocAttr]
 refine rosterOf_c (σ.length+2) 3 4 3 (by omega) (by omega) (by omega) _ ⟨s1,by rw[hget_at];rfl⟩ _ fun s2 made rates by_ j2 hT=>?_
 have hfit:=hT.fit (by omega)
 have hs2:=hT.sl
 have hel:=hT.el
 replace h:=fun j=>h made rates by_ j hT
 clear hT
 unfold pw
 rw[hset_at]
 simp only[List.set_cons_succ,List.set_cons_zero,List.append_assoc,List.cons_append]
 simp only[Ros.av,truAV,ints1]
 simp -implicitDefEqProofs (maxSteps:=9^9) (disch:=omega) only[go_sem,simprocAttr]
 obtain⟨σ2,hσ2⟩:∃σ2,σ2=σ++(AObj.cells [.int .i64 hands,.int .i64 skill,.int .i64 mn,.int .i64 mx,.list .no 2 (sets.map Sg.av),.list .no 6 (ents.map Tn.av)]::AObj.cells [.int .i64 day,.int .i64 hand,.int .i64 due,.int .i64 sl,.list .no 2 (ts.map Rng.av),.list .no 6 (rs.map Rd.av)]::AObj.cells [.int .u64 s2]::(j1++(j2++[AObj.cells [.int .i64 made.hands,.int .i64 made.skill,.int .i64 made.mn,.int .i64 made.mx,.list .no 2 (made.sets.map Sg.av),.list .no 6 (made.ents.map Tn.av)],AObj.cells [.list .no 1 (rates.map (.int .i64)),.list .no 1 (by_.map (.int .i64))]]))):=⟨_,rfl⟩
 obtain⟨J,hJ⟩:∃J,σ2=σ++J:=⟨_,hσ2⟩
 obtain⟨q7,hq7⟩:∃q7,q7=σ.length+(j1.length+j2.length+1+1+1):=⟨_,rfl⟩
 have hb0:∀k,hget (σ2++k) σ.length=some (AObj.cells [.int .i64 hands,.int .i64 skill,.int .i64 mn,.int .i64 mx,.list .no 2 (sets.map Sg.av),.list .no 6 (ents.map Tn.av)]):=fun k=>by rw[hσ2,List.append_assoc,hget_at0];rfl
 have hb1:∀k,hget (σ2++k) (σ.length+1)=some (AObj.cells [.int .i64 day,.int .i64 hand,.int .i64 due,.int .i64 sl,.list .no 2 (ts.map Rng.av),.list .no 6 (rs.map Rd.av)]):=fun k=>by rw[hσ2,List.append_assoc,hget_at];rfl
 have hb7:∀k,hget (σ2++k) q7=some (AObj.cells [.int .i64 made.hands,.int .i64 made.skill,.int .i64 made.mn,.int .i64 made.mx,.list .no 2 (made.sets.map Sg.av),.list .no 6 (made.ents.map Tn.av)]):=fun k=>by
  rw[hσ2,hq7,List.append_assoc,hget_at]
  simp only[List.cons_append,List.append_assoc,List.getElem?_cons_succ]
  rw[List.getElem?_append_right (by omega),Nat.add_sub_cancel_left,List.getElem?_append_right (Nat.le_refl _),Nat.sub_self]
  rfl
 rw[← hσ2,← hq7]
 clear hσ2 hq7
 refine copyRoster_c made (by omega) (by omega) hfit.ear _ _ fun a1 a2 a3 j3=>?_
 simp only[Ros.avv]
 simp -implicitDefEqProofs (maxSteps:=9^9) (disch:=omega) only[go_sem,simprocAttr,hb0,hb1,hb7]
 have hsetl:∀(j:List AObj) (c c':AObj),(j++[c]).set j.length c'=j++[c']:=fun j c c'=>by simp[List.set_append]
 change ARun _ _ _ _ _ _
 refine ARun.freezeK (σ2.length+(j3.length+1+1+1+1)) 5 (r:=σ2.length+3) (n:=made.ents.length+1) (sz:=6) (xs:=made.ents.map Tn.av++[.agg [.int .i64 day,.int .i64 hand,.int .i64 due,.int .i64 sl,.list .no 2 (ts.map Rng.av),.list .no 6 (rs.map Rd.av)]]) (by rw[hget_at];simp;rfl) rfl (by rw[hget_at];rfl) (by simp) ?_
 rw[hset_at,hset_at]
 simp only[List.set_cons_succ,List.set_cons_zero,hsetl]
 refine ev_sound (Tryz.envOK (S:=SBes) 28 (fun _=>([],[])) fs0 fs0_ok) (n:=1000) (by kernel_rfl) ?_
 simp -implicitDefEqProofs (maxSteps:=9^9) (disch:=omega) only[go_sem,simprocAttr,hb0,hb1,hb7]
 refine⟨_,wk_weak (w:= .list .no 6 ([⟨hands,skill,mn,mx,sets,ents⟩,made,made.snoc ⟨day,hand,due,⟨sl,ts,rs⟩⟩].map Ros.av)) ⟨by simp[Ros.av,Ros.snoc,Tn.av,Tn.cells],.inl rfl,.inl rfl⟩,?_⟩
 rw[hJ,List.append_assoc]
 exact h _
end Go.Proofs
namespace Go.Proofs
open Go Go.Mu Go.Ins
variable {S:MC Tryz.prog}
end Go.Proofs
namespace Go.Proofs
open Go Go.Mu Go.Ins
end Go.Proofs
namespace Go.Proofs
open Go Go.Mu Go.Ins
variable {S:MC Tryz.prog}
end Go.Proofs
namespace Go.Proofs
open Go Go.Mu Go.Ins
theorem hcopyRos_p(r:Ros)(hs:r.sets.length≤1000)(hn:r.ents.length≤1000)(he:∀x∈r.ents,x.ear.tones.length≤1000000∧x.ear.rds.length≤1000000):PureV SBes 30 [r.av] r.av:=by
 intro σ Q hq
 have hQ:Q r.av σ:=hq
 refine ACalls.clean ?_
 refine ACalls.frozeG ?_
 refine copyRoster_c r hs hn he σ _ fun a b c j=>?_
 refine⟨_,5,σ.length+3,6,r.ents.map Tn.av,rfl,?_,by rw[hget_at];rfl,?_⟩
 ·simp
 ·rw[hset_at]
  exact⟨r.av,_,rfl,Weak.refl _,r.plain _,hQ⟩
structure Ros.Few(r:Ros):Prop where
 sets:r.sets.length≤20
 ents:r.ents.length≤20
 ear:∀x∈r.ents,x.ear.tones.length≤20∧x.ear.rds.length≤20
theorem Ros.Few.fit{r:Ros}(h:r.Few):r.Fit:=⟨by have:=h.sets;omega,by have:=h.ents;omega,fun x hx=>by have:=h.ear x hx;omega⟩
theorem loudB_few{e:Ear}(h:loudB e=false):e.tones.length≤20∧e.rds.length≤20:=by
 unfold loudB at h
 simp at h
 omega
theorem crowdB_few{r:Ros}(h:crowdB r=false):r.Few:=by
 unfold crowdB at h
 simp only[Bool.or_eq_false_iff,decide_eq_false_iff_not] at h
 obtain⟨h1,h2,h3⟩:=h
 refine⟨by omega,by omega,fun x hx=>loudB_few ?_⟩
 rw[List.take_of_length_le (by omega)] at h1
 have:=List.any_eq_false.1 h1 x hx
 simpa using this
theorem TrueR.few{H E w:Int}{r:Ros}{rates by_:List Int}(h:TrueR H E w r rates by_)(hE:E≤5):r.Few:=by
 have h1:=h.sl
 have h2:=h.el
 refine⟨by omega,by omega,fun x hx=>?_⟩
 obtain⟨b,hb⟩:=h.by_at hx
 obtain⟨t,lo,hi,rds,_,_,g3,g4⟩:=hb.ear
 rw[g4]
 rcases g3 with rfl | rfl<;> simp
theorem Ros.Few.snoc{r:Ros}{x:Tn}(h:r.Few)(he:r.ents.length≤19)(hx:x.ear.tones.length≤20∧x.ear.rds.length≤20):(r.snoc x).Few:=by
 refine⟨h.sets,by show(r.ents++[x]).length≤20;simp;omega,fun y hy=>?_⟩
 rcases List.mem_append.1 (show y∈r.ents++[x] from hy) with hy | hy
 ·exact h.ear y hy
 ·simp at hy;subst hy;exact hx
theorem hints_p(l:List Int)(hl:l.length≤4294967296):PureV SBes 46 [.list .no 1 (l.map (.int .i64))] (.list .no 1 (l.map (.int .i64))):=by
 refine PvE (Tryz.envOK (S:=SBes) 6 (fun _=>([],[])) fs0 fs0_ok) (.map fun x _=> .cells_int) Tryz.kp46 Tryz.func46 rfl ?_
 intro σ
 simp -implicitDefEqProofs (maxSteps:=9^9) (disch:=omega) only[go_sem,simprocAttr]
theorem handLists_law(r:Ros)(x:Tn)(hs l:List Int)(hhs:hs.length≤4294967296)(hl:l.length≤2000000)(h1:r.sets.length≤4294967296)(h2:r.ents.length≤4294967296)(h3:∀y∈r.ents,y.ear.tones.length≤4294967296∧y.ear.rds.length≤4294967296)(h4:x.ear.tones.length≤4294967296∧x.ear.rds.length≤4294967296)(σ:List AObj) :
  ACalls SBes 7 [r.av,x.av,.list .no 1 (hs.map (.int .i64)),.list .no 1 (l.map (.int .i64))] σ fun v _=>v= .bool true:=by
 refine AcE (Tryz.envOK (S:=SBes) 138 Tryz.ord7 fs408 fs408_ok) Tryz.kp7 Tryz.func7 rfl ?_
 have hcr:=crowd11_p (S:=SBes) r h1 h2 h3
 have hld:=loud11_p (S:=SBes) x.ear h4.1 h4.2
 have hrs:=fun σ Q h=>rosters_c r x l (by omega) σ Q h
 have hfc:=@crowdB_few r
 have hfl:=@loudB_few x.ear
 generalize hC:crowdB r=C at *
 generalize loudB x.ear=Lo at *
 obtain⟨rav,hrav⟩:∃v,v=r.av:=⟨_,rfl⟩
 simp only[Ros.av,Tn.av,Tn.cells,Ear.av] at hcr hld hrs⊢
 cases C
 ·simp -implicitDefEqProofs (maxSteps:=9^9) (disch:=omega) only[go_sem,simprocAttr]
  refine hcr _ _ ?_
  cases Lo
  ·simp -implicitDefEqProofs (maxSteps:=9^9) (disch:=omega) only[go_sem,simprocAttr]
   refine hld _ _ ?_
   by_cases hH:hs.length≤20
   ·have hH':(20<(hs.length:Int))=False:=eq_false (by omega)
    simp -implicitDefEqProofs (maxSteps:=9^9) (disch:=omega) only[go_sem,simprocAttr,hH']
    refine hrs _ _ fun made rates by_ j hT=>?_
    have hF1:=hfc rfl
    have hF2:=hT.few (by omega)
    have hel:=hT.el
    have hmh:=hT.hands
    have hF3:=hF2.snoc (x:=x) (by omega) (hfl rfl)
    obtain⟨RS,hRS⟩:∃RS,RS=[r,made,made.snoc x]:=⟨_,rfl⟩
    have hlen:RS.length=3:=by rw[hRS];rfl
    have hfew:∀y∈RS,y.Few:=fun y hy=>by rw[hRS] at hy;simp at hy;rcases hy with rfl | rfl | rfl<;> assumption
    have hix1:idx (RS.map Ros.av) 1=some (.agg [.int .i64 made.hands,.int .i64 made.skill,.int .i64 made.mn,.int .i64 made.mx,.list .no 2 (made.sets.map Sg.av),.list .no 6 (made.ents.map Tn.av)]):=by rw[hRS];rfl
    rw[← hRS]
    clear hRS hF1 hF2 hF3 hT hcr hld hrs hfc hfl hel hC
    obtain⟨σ1,hσ1⟩:∃σ1,σ1=σ++(AObj.cells [.int .i64 r.hands,.int .i64 r.skill,.int .i64 r.mn,.int .i64 r.mx,.list .no 2 (r.sets.map Sg.av),.list .no 6 (r.ents.map Tn.av)]::AObj.cells [.int .i64 x.day,.int .i64 x.hand,.int .i64 x.due,.int .i64 x.ear.slack,.list .no 2 (x.ear.tones.map Rng.av),.list .no 6 (x.ear.rds.map Rd.av)]::j):=⟨_,rfl⟩
    simp only[List.append_assoc,List.cons_append,List.nil_append]
    rw[← hσ1]
    clear hσ1
    simp -implicitDefEqProofs (maxSteps:=9^9) (disch:=omega) only[go_sem,simprocAttr,hlen,hix1]
    refine newPot_c (1::l) _ (by simp only[List.length_cons];omega) _ _ fun s1 j1=>?_
    simp -implicitDefEqProofs (maxSteps:=9^9) (disch:=omega) only[go_sem,simprocAttr,hlen,hix1]
    have hpk:=fun τ hp Q h=>pick_c (σ1.length+1) made.hands.toNat (by omega) τ hp Q h
    rw[show(made.hands.toNat:Int)=made.hands by omega] at hpk
    refine hpk _ ⟨s1,by rw[hget_at];rfl⟩ _ fun s2 sm tk j2 hsm=>?_
    generalize pw (σ1++AObj.tail (1+l.length) 1::AObj.cells [AV.int IntKind.u64 s1]::j1) (σ1.length+1) s2++j2=σ2
    simp -implicitDefEqProofs (maxSteps:=9^9) (disch:=omega) only[go_sem,simprocAttr,hlen,hix1]
    obtain⟨LS,hLS⟩:∃LS:List (List Int),LS=[hs,sm,hs]:=⟨_,rfl⟩
    have hLl:LS.length=3:=by rw[hLS];rfl
    have hLm:[AV.list .no 1 (hs.map (.int .i64)),AV.list .no 1 (sm.map (.int .i64)),AV.list .no 1 (hs.map (.int .i64))]=LS.map ints1:=by rw[hLS];rfl
    have hLe:∀y∈LS,y.length≤1000:=fun y hy=>by rw[hLS] at hy;simp at hy;rcases hy with rfl | rfl | rfl<;> omega
    rw[hLm]
    clear hLm hLS hix1 hpk
    refine ARun.forS (Tryz.envOK (S:=SBes) 138 Tryz.ord7 fs408 fs408_ok) 3 (fun _=>True) (fun i=>[(12,.int .i64 i)]) (fun _ j=>σ2++j) [] (by kernel_rfl) (by simp) (by simp[upd,ins,subF,lookA]) trivial ?_ ?_
    ·intro i j hi _ ih
     have hidx:idx (RS.map Ros.av) (i:Int)=some (Ros.av (RS[i]'(by omega))):=idx_nat (by omega)
     have hidl:idx (LS.map ints1) (i:Int)=some (ints1 (LS[i]'(by omega))):=idx_nat (by omega)
     have hfy:=hfew _ (List.getElem_mem (l:=RS) (n:=i) (by omega))
     have hly:=hLe _ (List.getElem_mem (l:=LS) (n:=i) (by omega))
     have hwi:IntKind.i64.wrap ((i:Int)+1)=((i+1:Nat):Int):=by rw[wrap64 (by omega) (by omega)];rfl
     have hi3:((i:Int)<3)=True:=eq_true (by omega)
     generalize RS[i]'(by omega)=y at *
     generalize LS[i]'(by omega)=ly at *
     have hfit:=hfy.fit
     have hs1:=hfy.sets
     have hs2:=hfy.ents
     have hcp:=hcopyRos_p y (by omega) (by omega) hfit.ear
     have hin:=hints_p ly (by omega)
     have h1:=explainsG_p y hfit ly hly
     have h2:=rExplains_p (S:=SBes) y hfit ly hly
     have h3:=fewest_p y hfit
     have h4:=rFewest_p (S:=SBes) y hfit
     have hfl:=fewL_few y
     have hsl:=hsameLists_p (S:=SBes) (fewL y) (fewL y) (by omega) (by omega) (fun x hx=>by have:=hfl.2 x hx;omega) (fun x hx=>by have:=hfl.2 x hx;omega)
     have hss:=sameRos_p (S:=SBes) y hfit.sets hfit.ents hfit.ear
     rw[decide_eq_true rfl] at hsl
     clear hfl
     generalize fewL y=n1 at *
     generalize knownE y []=n2 at *
     generalize explB y ly=n3 at *
     generalize explE y ly=n4 at *
     have hav:y.av= .agg [.int .i64 y.hands,.int .i64 y.skill,.int .i64 y.mn,.int .i64 y.mx,.list .no 2 (y.sets.map Sg.av),.list .no 6 (y.ents.map Tn.av)]:=rfl
     rw[hav] at hidx hcp h1 h2 h3 h4 hss
     simp only[ints1,htss] at hidl h1 h2 h4
     simp -implicitDefEqProofs (maxSteps:=9^9) (disch:=omega) only[go_sem,simprocAttr,hidx,hidl,hi3]
     refine hcp _ _ ?_
     simp -implicitDefEqProofs (maxSteps:=9^9) (disch:=omega) only[go_sem,simprocAttr,hidx,hidl]
     refine hin _ _ ?_
     simp -implicitDefEqProofs (maxSteps:=9^9) (disch:=omega) only[go_sem,simprocAttr,hidx,hidl]
     refine h1 _ _ ?_
     simp -implicitDefEqProofs (maxSteps:=9^9) (disch:=omega) only[go_sem,simprocAttr,hidx,hidl]
     refine h2 _ _ ?_
     simp -implicitDefEqProofs (maxSteps:=9^9) (disch:=omega) only[go_sem,simprocAttr,hidx,hidl]
     refine h3 _ _ ?_
     simp -implicitDefEqProofs (maxSteps:=9^9) (disch:=omega) only[go_sem,simprocAttr,hidx,hidl]
     refine h4 _ _ ?_
     simp -implicitDefEqProofs (maxSteps:=9^9) (disch:=omega) only[go_sem,simprocAttr,hidx,hidl]
     refine hsl _ _ ?_
     simp -implicitDefEqProofs (maxSteps:=9^9) (disch:=omega) only[go_sem,simprocAttr,hidx,hidl]
     refine hss _ _ ?_
     simp -implicitDefEqProofs (maxSteps:=9^9) (disch:=omega) only[go_sem,simprocAttr,hidx,hidl,hwi]
     exact(ih trivial (j++[AObj.cells [.int .i64 y.hands,.int .i64 y.skill,.int .i64 y.mn,.int .i64 y.mx,.list .no 2 (y.sets.map Sg.av),.list .no 6 (y.ents.map Tn.av)]])).castS rfl (by simp[upd,ins,subF,lookA])
    ·intro j _
     simp -implicitDefEqProofs (maxSteps:=9^9) (disch:=omega) only[go_sem,simprocAttr,hlen]
     refine steady_p _ _ ?_
     simp -implicitDefEqProofs (maxSteps:=9^9) (disch:=omega) only[go_sem,simprocAttr]
   ·have hH':(20<(hs.length:Int))=True:=eq_true (by omega)
    simp -implicitDefEqProofs (maxSteps:=9^9) (disch:=omega) only[go_sem,simprocAttr,hH']
    refine steady_p _ _ ?_
    simp -implicitDefEqProofs (maxSteps:=9^9) (disch:=omega) only[go_sem,simprocAttr]
  ·simp -implicitDefEqProofs (maxSteps:=9^9) (disch:=omega) only[go_sem,simprocAttr]
   refine hld _ _ ?_
   simp -implicitDefEqProofs (maxSteps:=9^9) (disch:=omega) only[go_sem,simprocAttr]
   refine steady_p _ _ ?_
   simp -implicitDefEqProofs (maxSteps:=9^9) (disch:=omega) only[go_sem,simprocAttr]
 ·simp -implicitDefEqProofs (maxSteps:=9^9) (disch:=omega) only[go_sem,simprocAttr]
  refine hcr _ _ ?_
  simp -implicitDefEqProofs (maxSteps:=9^9) (disch:=omega) only[go_sem,simprocAttr]
  refine steady_p _ _ ?_
  simp -implicitDefEqProofs (maxSteps:=9^9) (disch:=omega) only[go_sem,simprocAttr]
end Go.Proofs
