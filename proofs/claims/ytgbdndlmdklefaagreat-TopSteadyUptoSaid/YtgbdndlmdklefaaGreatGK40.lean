/- Texts of a proof: lemmas. -/
import Derived.Test.YtgbdndlmdklefaaGreatGK19
import Derived.Test.YtgbdndlmdklefaaGreatGK38
import Derived.Test.YtgbdndlmdklefaaGreatGK37
import Derived.Test.YtgbdndlmdklefaaGreatGK39
set_option linter.unusedSimpArgs false
set_option linter.unusedVariables false
set_option maxRecDepth 100000
set_option maxHeartbeats 40000000
namespace Go.Proofs
open Go Go.Mu Go.Ins
theorem lone_weak:WeakL [.agg [.int .i64 2,.int .i64 3,.int .i64 (-2),.int .i64 2,.list .full 0 [],.list .full 6 [.agg [.int .i64 5,.int .i64 (-1),.int .i64 44000,.int .i64 0,.list .full 2 [.agg [.int .i64 44008,.int .i64 44012]],.list .full 0 []]]]] [loneR.av]:=by
 refine⟨Weak.aggL ⟨Weak.refl _,Weak.refl _,Weak.refl _,Weak.refl _,Weak.nil,Weak.list rfl (fun i h h'=>?_) (fun i h h' j g g'=>?_),trivial⟩,trivial⟩
 ·obtain rfl:i=0:=by simpa using h
  rfl
 ·obtain rfl:i=0:=by simpa using h
  exact WeakL.at (l:=[.int .i64 5,.int .i64 (-1),.int .i64 44000,.int .i64 0,.list .full 2 [.agg [.int .i64 44008,.int .i64 44012]],.list .full 0 []]) (l':=[.int .i64 5,.int .i64 (-1),.int .i64 44000,.int .i64 0,.list .no 2 [.agg [.int .i64 44008,.int .i64 44012]],.list .no 6 []])
   ⟨Weak.refl _,Weak.refl _,Weak.refl _,Weak.refl _,wk0_weak ⟨rfl,.inl rfl,.inl rfl⟩,Weak.nil,trivial⟩ j g g'
theorem steadyAw_p:PureV SBes 82 [] (.bool true):=by
 refine PvE (Tryz.envOK (S:=SBes) 25 (fun _=>([],[])) fs408 fs408_ok) (.bool) Tryz.kp82 Tryz.func82 rfl ?_
 intro σ
 simp -implicitDefEqProofs (maxSteps:=9^9) (disch:=omega) only[go_sem,simprocAttr]
 refine ACalls.weakW lone_weak (fewest_p loneR lone_fit _ _ ?_)
 rw[lone_few,lone_k rfl]
 simp -implicitDefEqProofs (maxSteps:=9^9) (disch:=omega) only[go_sem,simprocAttr]
 refine ACalls.weaken (l':=[.list .no 1 ([[0],[1]].map ints1),.list .no 1 ([[0],[1]].map ints1)]) ⟨⟨rfl,.inl rfl,.inl rfl⟩,⟨rfl,.inl rfl,.inl rfl⟩,trivial⟩ (hsameLists_p [[0],[1]] [[0],[1]] (by decide) (by decide) (by decide) (by decide) _ _ ?_)
 rw[decide_eq_true rfl]
 simp -implicitDefEqProofs (maxSteps:=9^9) (disch:=omega) only[go_sem,simprocAttr]
def jobS(x:Rng)(w:Int):Jb:=⟨x,⟨0,0⟩,⟨0,0⟩,⟨0,0⟩,⟨0,0⟩,⟨0,0⟩,⟨0,0⟩,0,[],w,0⟩
theorem jobS_ok{x:Rng}{w:Int}(h1: -60≤x.lo)(h2:x.lo≤x.hi)(h3:x.hi≤60)(hw:0≤w∧w≤60):OkJ (jobS x w):=by
 have h0:∀n,0≤n→okB 0 n ⟨0,0⟩:=fun n hn=>⟨by simp,by simp,hn⟩
 exact⟨⟨h1,h2,h3⟩,h0 _ (by omega),h0 _ (by omega),h0 _ (by omega),h0 _ (by omega),h0 _ (by omega),h0 _ (by omega),by simp[jobS],by simp[jobS],fun y hy=>absurd hy (by simp[jobS]),hw,by simp[jobS]⟩
theorem jobS_pass{x:Rng}{w:Int}(h2:x.lo≤x.hi)(hw:0≤w∧w≤60):passS (jobS x w) x=2↔¬(x.lo-w≤0∧0≤x.hi+w):=by
 have e1:winS (jobS x w)=⟨0-w,w⟩:=rfl
 have e2:mayS (jobS x w)=⟨0-w,w⟩:=rfl
 unfold passS
 rw[e1,e2]
 unfold hasR meet2
 simp only[decide_eq_true_eq]
 split
 ·omega
 ·split<;> omega
theorem dev_le{r:Ros}(hg:r.Good){i:Nat}(hi:i<r.ents.length):(((entsL r).map devR).getD i default).lo≤(((entsL r).map devR).getD i default).hi:=by
 have hdd:((entsL r).map devR).getD i default=devR (chkE r.ents[i] r.hands).1:=by
  simp[entsL,List.getD_eq_getElem?_getD,List.getElem?_eq_getElem hi]
 obtain⟨sl,lo,hi',rds,h1,h2,h3,h4⟩:=hg.one (List.getElem_mem hi)
 rw[hdd,h4,devR_sub h3]
 have:=(asc_tg (oneV_asc sl lo hi' rds) (tgl_mem h3)).1
 simp only
 omega
def stillC(r:Ros)(i:Nat):Bool:=decide ((((entsL r).map devR).getD i default).lo-r.skill≤0∧0≤(((entsL r).map devR).getD i default).hi+r.skill)
theorem _root_.Go.Mu.ARun.castG{E:Env}{ro:Option Nat}{todo:List Item}{kp:Nat→Bool}{tm sl sl':List (Nat×AV)}{σ:List AObj}{Q:Post}(F:List AObj→Prop)(hF:F σ)(h:∀W,F W→ARun E ro todo ⟨kp,[],sl'⟩ W Q)(hs:subF sl' sl):ARun E ro todo ⟨kp,tm,sl⟩ σ Q:=
 ARun.castS (h σ hF) rfl hs
theorem cutG1{G goal:Prop}(h1:G→goal)(h2:G):goal:=h1 h2
theorem cutG2{α β:Type}{F:α→β→Prop}(G:α→β→Prop){goal:Prop}(h1:(∀a b,F a b→G a b)→goal)(h2:∀a b,F a b→G a b):goal:=h1 h2
theorem topSteady_law(l:List Int)(hl:l.length≤4294967296)(σ:List AObj):ACalls SBes 18 [.list .no 1 (l.map (.int .i64))] σ fun v _=>v= .bool true:=by
 refine ACalls.of_evN 11 (E:=Tryz.E (S:=SBes) 163 Tryz.ord18 fs408) (Tryz.envOK (S:=SBes) 163 Tryz.ord18 fs408 fs408_ok) Tryz.kp18 Tryz.func18 rfl (by kernel_rfl) (by simp[Tryz.E]) (Callable.of Tryz.func18 (by kernel_rfl) (by kernel_rfl)) (by kernel_rfl) ?_
 simp -implicitDefEqProofs (maxSteps:=9^9) (disch:=omega) only[go_sem,simprocAttr]
 refine newPot_c l .no hl σ _ fun s1 j1=>?_
 obtain⟨τ,hτ⟩:∃τ,τ=σ++(AObj.cells [.int .u64 s1]::j1):=⟨_,rfl⟩
 have hp:PotAt τ σ.length:=⟨s1,by rw[hτ];exact hget_at0⟩
 rw[← hτ]
 obtain⟨p,hpe⟩:∃p,p=σ.length:=⟨_,rfl⟩
 rw[← hpe] at hp⊢
 clear hτ hpe
 have hpl:=hp.lt1
 simp -implicitDefEqProofs (maxSteps:=9^9) (disch:=omega) only[go_sem,simprocAttr]
 refine rosterOf_v p 3 4 3 (by omega) (by omega) (by omega) τ hp _ fun s2 r rates by_ o1 o2 o3 o4 o5 o6 j hT=>?_
 simp only[Ros.avv,truAV,ints1,List.append_assoc,List.cons_append,List.nil_append,List.length_append,List.length_cons,List.length_nil,Nat.zero_add,Nat.reduceAdd,Nat.add_assoc]
 have hR1:∀s R T V,hget (pw τ p s++(o1::o2::o3::o4::o5::o6::V::(j++[R,T]))) (τ.length+(7+j.length))=some R:=fun s R T V=>by
  rw[hhget_pw];simp[show 7+j.length=j.length+7 by omega]
 have hel:=hT.el
 have hst:SteR r:=⟨hT.fit (by omega),hT.head (by omega) (by omega),hT.entE (by omega)⟩
 have hsk:=hT.skill
 have hdu:∀x∈r.ents,500≤x.due∧x.due≤2000:=fun x hx=>by obtain⟨b,hb⟩:=hT.by_at hx;exact hb.due
 clear hT
 obtain⟨q,hq⟩:∃q,q=τ.length+(j.length+1+1+1+1+1+1+1):=⟨_,rfl⟩
 have hR2:∀s R T V,hget (pw τ p s++(o1::o2::o3::o4::o5::o6::V::(j++[R,T]))) q=some R:=fun s R T V=>by
  rw[hq,hhget_pw];simp
 have hS2:∀s R T V R',hset (pw τ p s++(o1::o2::o3::o4::o5::o6::V::(j++[R,T]))) q R'=pw τ p s++(o1::o2::o3::o4::o5::o6::V::(j++[R',T])):=fun s R T V R'=>by
  rw[hq,hhset_pw];simp[List.set_append]
 refine' cutG2 (F:=fun(R:Ros) (σ':List AObj)=>SteR R∧R.ents.length≤4∧(0≤R.skill∧R.skill≤3)∧hget σ' q=some (.cells [.int .i64 R.hands,.int .i64 R.skill,.int .i64 R.mn,.int .i64 R.mx,.list .no 2 (R.sets.map Sg.av),.list .no 6 (R.ents.map Tn.av)])) _ (fun hG=>?f) ?g
 case f=>
  by_cases hn:0<(r.ents.length:Int)
  ·have hn':(0<(r.ents.length:Int))=True:=eq_true hn
   have hwn:IntKind.i64.wrap ((r.ents.length:Int)-1)=(r.ents.length:Int)-1:=wrap64 (by omega) (by omega)
   simp -implicitDefEqProofs (maxSteps:=9^9) (disch:=omega) only[go_sem,simprocAttr,hlength_pw,hhget_pw0,hhget_pw,hhset_pw0,hhset_pw,hR1,hn']
   refine odds_c p 1 3 (by omega) (by omega) _ (hp.pw _).app1 _ fun s3 q1=>?_
   rw[hpw_pwa hpl]
   cases q1
   ·simp -implicitDefEqProofs (maxSteps:=9^9) (disch:=omega) only[go_sem,simprocAttr,hlength_pw,hhget_pw0,hhget_pw,hhset_pw0,hhset_pw,hR1,hn']
    rw[← hq]
    change ARun _ _ _ _ _ _
    refine ev_sound (Tryz.envOK (S:=SBes) 163 Tryz.ord18 fs408 fs408_ok) (n:=2) (by kernel_rfl) ?_
    simp -implicitDefEqProofs (maxSteps:=9^9) (disch:=omega) only[go_sem,simprocAttr]
    change ARun _ _ _ _ _ _
    refine ARun.freezeK q 5 (r:=τ.length+6) (n:=r.ents.length) (sz:=6) (xs:=r.ents.map Tn.av) (hR2 _ _ _ _) rfl (by rw[hhget_pw];rfl) (by simp) ?_
    rw[hhset_pw]
    simp only[List.set_cons_succ,List.set_cons_zero]
    rw[hS2]
    obtain⟨R,hR⟩:∃R,R=r:=⟨_,rfl⟩
    have hRF:SteR R∧R.ents.length≤4∧(0≤R.skill∧R.skill≤3):=by rw[hR];exact⟨hst,by omega,hsk⟩
    refine ARun.castG (sl':=[(2,.bool false),(4,.ptr q 0)]) (fun W=>hget W q=some (.cells [.int .i64 R.hands,.int .i64 R.skill,.int .i64 R.mn,.int .i64 R.mx,.list .no 2 (R.sets.map Sg.av),.list .no 6 (R.ents.map Tn.av)])) (by rw[hR];exact hR2 _ _ _ _) (fun W hW=>?_) (by simp[subF,lookA])
    exact hG R W ⟨hRF.1,hRF.2.1,hRF.2.2,hW⟩
   ·simp -implicitDefEqProofs (maxSteps:=9^9) (disch:=omega) only[go_sem,simprocAttr,hlength_pw,hhget_pw0,hhget_pw,hhset_pw0,hhset_pw,hR1,hn']
    rw[← hq]
    change ARun _ _ _ _ _ _
    refine ev_sound (Tryz.envOK (S:=SBes) 163 Tryz.ord18 fs408 fs408_ok) (n:=4) (by kernel_rfl) ?_
    simp -implicitDefEqProofs (maxSteps:=9^9) (disch:=omega) only[go_sem,simprocAttr,hwn]
    refine upto_c p ((r.ents.length:Int)-1) (by omega) _ (hp.pw _).app1 _ fun s4 x x1 x2=>?_
    rw[hpw_pwa hpl]
    have hx:0≤x∧x<(r.ents.length:Int):=by omega
    clear x1 x2
    obtain⟨i,rfl⟩:∃i:Nat,x=i:=⟨x.toNat,by omega⟩
    have hi:i<r.ents.length:=by omega
    have hgx:(r.ents.map Tn.av)[i]? = some (Tn.av (r.ents.getD i default)):=by simp[List.getD,List.getElem?_eq_getElem hi]
    have hdi:500≤(r.ents.getD i default).due∧(r.ents.getD i default).due≤2000:=by
     have hg:r.ents.getD i default=r.ents[i]:=by simp[List.getD,List.getElem?_eq_getElem hi]
     rw[hg];exact hdu _ (List.getElem_mem hi)
    have hOd:=fun d hd=>hst.odd hi (d:=d) hd
    have hset:∀d,(r.ents.map Tn.av).set i (Tn.av (dueX (r.ents.getD i default) d))=(oddX r i d).ents.map Tn.av:=fun d=>by unfold oddX;rw[List.map_set]
    obtain⟨t,ht⟩:∃t,t=r.ents.getD i default:=⟨_,rfl⟩
    rw[← ht] at hgx hdi hset hOd
    have hav:t.av= .agg t.cells:=rfl
    simp only[hav,Tn.cells] at hgx
    simp -implicitDefEqProofs (maxSteps:=9^9) (disch:=omega) only[go_sem,simprocAttr,hlength_pw,hhget_pw0,hhget_pw,hhset_pw0,hhset_pw,hR2,hS2,hgx]
    refine of_c p [-6, -2,2,6] .full (by simp) _ (hp.pw _).app1 _ fun s5 x hx4=>?_
    rw[hpw_pwa hpl]
    have hx5: -9≤x∧x≤30:=by simp at hx4;omega
    have hwx:IntKind.i64.wrap (t.due+x)=t.due+x:=wrap64 (by omega) (by omega)
    have hse:=hset x
    have hsx:(dueX t x).av= .agg [.int .i64 t.day,.int .i64 t.hand,.int .i64 (t.due+x),.int .i64 t.ear.slack,.list .no 2 (t.ear.tones.map Rng.av),.list .no 6 (t.ear.rds.map Rd.av)]:=rfl
    rw[hsx] at hse
    simp -implicitDefEqProofs (maxSteps:=9^9) (disch:=omega) only[go_sem,simprocAttr,hlength_pw,hhget_pw0,hhget_pw,hhset_pw0,hhset_pw,hR2,hS2,hgx,hwx,hse]
    change ARun _ _ _ _ _ _
    have hlo:((oddX r i x).ents.map Tn.av).length=r.ents.length:=by simp[oddX]
    refine ARun.freezeK q 5 (r:=τ.length+6) (n:=r.ents.length) (sz:=6) (xs:=(oddX r i x).ents.map Tn.av) (hR2 _ _ _ _) rfl (by rw[hhget_pw];rfl) (by rw[hlo]) ?_
    rw[hhset_pw]
    simp only[List.set_cons_succ,List.set_cons_zero]
    rw[hS2]
    obtain⟨R,hR⟩:∃R,R=oddX r i x:=⟨_,rfl⟩
    have hRF:SteR R∧R.ents.length≤4∧(0≤R.skill∧R.skill≤3):=by rw[hR];exact⟨hOd x (by omega),by rw[List.length_map] at hlo;omega,hsk⟩
    refine ARun.castG (sl':=[(2,.bool false),(4,.ptr q 0)]) (fun W=>hget W q=some (.cells [.int .i64 R.hands,.int .i64 R.skill,.int .i64 R.mn,.int .i64 R.mx,.list .no 2 (R.sets.map Sg.av),.list .no 6 (R.ents.map Tn.av)])) (by rw[hR];exact hR2 _ _ _ _) (fun W hW=>?_) (by simp[subF,lookA])
    exact hG R W ⟨hRF.1,hRF.2.1,hRF.2.2,hW⟩
  ·have hn':(0<(r.ents.length:Int))=False:=eq_false hn
   simp -implicitDefEqProofs (maxSteps:=9^9) (disch:=omega) only[go_sem,simprocAttr,hlength_pw,hhget_pw0,hhget_pw,hhset_pw0,hhset_pw,hR1,hn']
   rw[← hq]
   change ARun _ _ _ _ _ _
   refine ev_sound (Tryz.envOK (S:=SBes) 163 Tryz.ord18 fs408 fs408_ok) (n:=2) (by kernel_rfl) ?_
   simp -implicitDefEqProofs (maxSteps:=9^9) (disch:=omega) only[go_sem,simprocAttr]
   change ARun _ _ _ _ _ _
   refine ARun.freezeK q 5 (r:=τ.length+6) (n:=r.ents.length) (sz:=6) (xs:=r.ents.map Tn.av) (hR2 _ _ _ _) rfl (by rw[hhget_pw];rfl) (by simp) ?_
   rw[hhset_pw]
   simp only[List.set_cons_succ,List.set_cons_zero]
   rw[hS2]
   obtain⟨R,hR⟩:∃R,R=r:=⟨_,rfl⟩
   have hRF:SteR R∧R.ents.length≤4∧(0≤R.skill∧R.skill≤3):=by rw[hR];exact⟨hst,by omega,hsk⟩
   refine ARun.castG (sl':=[(2,.bool false),(4,.ptr q 0)]) (fun W=>hget W q=some (.cells [.int .i64 R.hands,.int .i64 R.skill,.int .i64 R.mn,.int .i64 R.mx,.list .no 2 (R.sets.map Sg.av),.list .no 6 (R.ents.map Tn.av)])) (by rw[hR];exact hR2 _ _ _ _) (fun W hW=>?_) (by simp[subF,lookA])
   exact hG R W ⟨hRF.1,hRF.2.1,hRF.2.2,hW⟩
 case g=>
  clear hR1 hR2 hS2 hel hst hsk hdu hq
  rintro R σ2 ⟨hst,hel,hsk,hr2⟩
  change ARun _ _ _ _ _ _
  have hg:=hst.good
  have hro:=hst.ro
  have hhd:=hg.hands
  have hr3:∀j,hget (σ2++j) q=some (.cells [.int .i64 R.hands,.int .i64 R.skill,.int .i64 R.mn,.int .i64 R.mx,.list .no 2 (R.sets.map Sg.av),.list .no 6 (R.ents.map Tn.av)]):=fun j=>hgetA hr2
  have hdv:=deviations_p R hst.fit
  rw[hro,show devsL R=(entsL R).map devR from if_pos hro] at hdv
  have hDl:((entsL R).map devR).length=R.ents.length:=by rw[List.length_map,entsL_len]
  have hml:(R.ents.map Tn.av).length=R.ents.length:=by simp
  have hst2:=still_iff hg
  have hfw:=steady_few hg hro
  have hex:=explains_p R hst.fit hg hst.head hst.ent [] (by simp) (by simp) (by simp)
  rw[show setN []=0 from rfl] at hex
  have hfe:=fewest_p R hst.fit
  have hfl:=fewL_few R
  have hdl:=fun i hi=>@dev_le R hg i hi
  have hsc:∀i,stillC R i=decide ((((entsL R).map devR).getD i default).lo-R.skill≤0∧0≤(((entsL R).map devR).getD i default).hi+R.skill):=fun _=>rfl
  have hB:decide (htruthsR R (entsL R) 0≠[])=(List.range R.ents.length).all fun i=>stillC R i:=by
   rw[Bool.eq_iff_iff,decide_eq_true_eq,hst2,List.all_eq_true]
   exact⟨fun h i hi=>decide_eq_true (h i (List.mem_range.1 hi)),fun h i hi=>of_decide_eq_true (h i (List.mem_range.2 hi))⟩
  rw[hB] at hex
  have hfB:(List.range R.ents.length).all (fun i=>stillC R i)=true→fewL R=[[]]∧knownE R []=0:=fun h=>hfw.1 (of_decide_eq_true (hB.trans h))
  have hfN:(List.range R.ents.length).all (fun i=>stillC R i)=false→∀l∈fewL R,l≠[]:=fun h=>hfw.2.1 (Classical.byContradiction fun c=>of_decide_eq_false (hB.trans h) c)
  have hfK:=hfw.2.2
  clear hB hfw hst2 hst hg hro
  generalize (entsL R).map devR=D at *
  generalize fewL R=F at *
  generalize knownE R []=K at *
  simp only[Ros.av,ints1,List.map_nil] at hdv hex hfe
  refine ev_sound (Tryz.envOK (S:=SBes) 163 Tryz.ord18 fs408 fs408_ok) (n:=1000) (by kernel_rfl) ?_
  simp -implicitDefEqProofs (maxSteps:=9^9) (disch:=omega) only[go_sem,simprocAttr,hr2,hr3]
  refine hdv _ _ ?_
  simp -implicitDefEqProofs (maxSteps:=9^9) (disch:=omega) only[go_sem,simprocAttr,hr2,hr3,hml,hDl]
  refine ARun.forS (Tryz.envOK (S:=SBes) 163 Tryz.ord18 fs408 fs408_ok) R.ents.length (fun _=>True) (fun i=>[(10,.bool ((List.range i).all fun i=>stillC R i)),(11,.int .i64 i)]) (fun _ _=>σ2) [] (by kernel_rfl) (by simp) (by simp[upd,ins,subF,lookA]) trivial ?_ ?_
  ·intro i j hi _ ih
   have hlt:((i:Int)<R.ents.length)=True:=eq_true (by omega)
   have hwi:IntKind.i64.wrap ((i:Int)+1)=((i+1:Nat):Int):=by rw[wrap64 (by omega) (by omega)];rfl
   have hgd:D.getD i default=D[i]'(by omega):=by simp[List.getD,List.getElem?_eq_getElem (show i<D.length by omega)]
   have hidd:idx (D.map Rng.av) (i:Int)=some (Rng.av (D[i]'(by omega))):=idx_nat (by omega)
   have hdi:=hdl i hi
   have hsi:=hsc i
   have hst3:((List.range (i+1)).all fun i=>stillC R i)=(((List.range i).all fun i=>stillC R i)&&stillC R i):=by rw[List.range_succ,List.all_append];simp
   rw[hst3] at ih
   rw[hgd] at hdi hsi
   clear hst3 hgd hdl hsc
   generalize D[i]'(by omega)=d at *
   simp only[Rng.av] at hidd
   generalize ((List.range i).all fun i=>stillC R i)=B at *
   by_cases c1:d.lo< -60
   ·have c1':=eq_true c1
    simp -implicitDefEqProofs (maxSteps:=9^9) (disch:=omega) only[go_sem,simprocAttr,hr2,hr3,hidd,hDl,hlt,c1']
    refine filAwake_c _ _ fun σ3=>?_
    simp -implicitDefEqProofs (maxSteps:=9^9) (disch:=omega) only[go_sem,simprocAttr]
    refine steadyAw_p _ _ ?_
    simp -implicitDefEqProofs (maxSteps:=9^9) (disch:=omega) only[go_sem,simprocAttr]
   ·have c1':=eq_false c1
    by_cases c2:60<d.hi
    ·have c2':=eq_true c2
     simp -implicitDefEqProofs (maxSteps:=9^9) (disch:=omega) only[go_sem,simprocAttr,hr2,hr3,hidd,hDl,hlt,c1',c2']
     refine filAwake_c _ _ fun σ3=>?_
     simp -implicitDefEqProofs (maxSteps:=9^9) (disch:=omega) only[go_sem,simprocAttr]
     refine steadyAw_p _ _ ?_
     simp -implicitDefEqProofs (maxSteps:=9^9) (disch:=omega) only[go_sem,simprocAttr]
    ·have c2':=eq_false c2
     have hps:=spasses_p (S:=SBes) (jobS d R.skill) (jobS_ok (by omega) hdi (by omega) (by omega))
     have hpv:=jobS_pass (x:=d) (w:=R.skill) hdi (by omega)
     rw[show(jobS d R.skill).pitch=d from rfl] at hps
     have hSC:stillC R i=decide ¬(passS (jobS d R.skill) d=2):=by rw[hsi,decide_eq_decide,hpv];omega
     rw[hSC] at ih
     generalize passS (jobS d R.skill) d=v at *
     simp -implicitDefEqProofs (maxSteps:=9^9) (disch:=omega) only[go_sem,simprocAttr,hr2,hr3,hidd,hDl,hlt,c1',c2']
     refine ACalls.weaken (l':=[(jobS d R.skill).av]) ⟨⟨rfl,rfl,rfl,rfl,rfl,rfl,rfl,rfl,rfl,rfl,rfl,rfl,rfl,rfl,rfl,⟨rfl,.inr rfl,.inl rfl⟩,rfl,rfl,trivial⟩,trivial⟩ (hps _ _ ?_)
     by_cases c3:v=2
     ·have c3':=eq_true c3
      rw[decide_eq_false (fun c=>c c3)] at ih
      cases B
      ·simp -implicitDefEqProofs (maxSteps:=9^9) (disch:=omega) only[go_sem,simprocAttr,hr2,hr3,c3',hwi]
       exact(ih trivial []).castS rfl (by simp[upd,ins,subF,lookA])
      ·simp -implicitDefEqProofs (maxSteps:=9^9) (disch:=omega) only[go_sem,simprocAttr,hr2,hr3,c3',hwi]
       exact(ih trivial []).castS rfl (by simp[upd,ins,subF,lookA])
     ·have c3':=eq_false c3
      rw[decide_eq_true c3] at ih
      cases B
      ·simp -implicitDefEqProofs (maxSteps:=9^9) (disch:=omega) only[go_sem,simprocAttr,hr2,hr3,c3',hwi]
       exact(ih trivial []).castS rfl (by simp[upd,ins,subF,lookA])
      ·simp -implicitDefEqProofs (maxSteps:=9^9) (disch:=omega) only[go_sem,simprocAttr,hr2,hr3,c3',hwi]
       exact(ih trivial []).castS rfl (by simp[upd,ins,subF,lookA])
  ·intro j _
   have hlt:((R.ents.length:Int)<R.ents.length)=False:=eq_false (by omega)
   clear hdl hsc hdv
   generalize ((List.range R.ents.length).all fun i=>stillC R i)=B at *
   have hmF:(F.map ints1).length=F.length:=by simp
   have hFe:∀l∈F,decide ((l.length:Int)=0)=B:=fun l hl=>by
    cases B
    ·exact decide_eq_false (by have:=List.length_pos_iff.2 (hfN rfl l hl);omega)
    ·rw[(hfB rfl).1] at hl;simp at hl;subst hl;rfl
   have hKB:B=true→K=0:=fun h=>(hfB h).2
   simp -implicitDefEqProofs (maxSteps:=9^9) (disch:=omega) only[go_sem,simprocAttr,hr2,hr3,hDl,hlt]
   refine ACalls.weaken (l':=[.agg [.int .i64 R.hands,.int .i64 R.skill,.int .i64 R.mn,.int .i64 R.mx,.list .no 2 (R.sets.map Sg.av),.list .no 6 (R.ents.map Tn.av)],.list .no 1 []]) ⟨⟨rfl,rfl,rfl,rfl,⟨rfl,.inl rfl,.inl rfl⟩,⟨rfl,.inl rfl,.inl rfl⟩,trivial⟩,⟨rfl,.inr rfl,.inl rfl⟩,trivial⟩ (hex _ _ ?_)
   simp -implicitDefEqProofs (maxSteps:=9^9) (disch:=omega) only[go_sem,simprocAttr,hr2,hr3]
   refine hfe _ _ ?_
   simp -implicitDefEqProofs (maxSteps:=9^9) (disch:=omega) only[go_sem,simprocAttr,hr2,hr3]
   refine cutG1 (fun key=>⟨fun h1=>⟨fun h2=>hfK.elim h1 h2,fun _=>key⟩,fun _=>key⟩) ?_
   refine ARun.forS (Tryz.envOK (S:=SBes) 163 Tryz.ord18 fs408 fs408_ok) F.length (fun _=>True) (fun i=>[(18,.int .i64 i)]) (fun _ _=>σ2) [] (by kernel_rfl) (by simp) (by simp[upd,ins,subF,lookA]) trivial ?_ ?_
   ·intro i j hi _ ih
    have hwi:IntKind.i64.wrap ((i:Int)+1)=((i+1:Nat):Int):=by rw[wrap64 (by omega) (by omega)];rfl
    have hidf:idx (F.map ints1) (i:Int)=some (ints1 F[i]):=idx_nat hi
    have hb:=hFe _ (List.getElem_mem hi)
    generalize F[i]=f at *
    have hml2:(f.map (AV.int .i64)).length=f.length:=by simp
    simp only[ints1] at hidf
    by_cases c:(f.length:Int)=0
    ·have c':=eq_true c
     rw[decide_eq_true c] at hb
     subst hb
     simp -implicitDefEqProofs (maxSteps:=9^9) (disch:=omega) only[go_sem,simprocAttr,hidf,hml2,hmF,c',hwi]
     exact(ih trivial []).castS rfl (by simp[upd,ins,subF,lookA])
    ·have c':=eq_false c
     rw[decide_eq_false c] at hb
     subst hb
     simp -implicitDefEqProofs (maxSteps:=9^9) (disch:=omega) only[go_sem,simprocAttr,hidf,hml2,hmF,c',hwi]
     exact(ih trivial []).castS rfl (by simp[upd,ins,subF,lookA])
   ·intro j _
    cases B
    ·simp -implicitDefEqProofs (maxSteps:=9^9) (disch:=omega) only[go_sem,simprocAttr,hmF]
     refine filAwake_c _ _ fun σ3=>?_
     simp -implicitDefEqProofs (maxSteps:=9^9) (disch:=omega) only[go_sem,simprocAttr]
     refine steadyAw_p _ _ ?_
     simp -implicitDefEqProofs (maxSteps:=9^9) (disch:=omega) only[go_sem,simprocAttr]
    ·have hK0:=hKB rfl
     subst hK0
     simp -implicitDefEqProofs (maxSteps:=9^9) (disch:=omega) only[go_sem,simprocAttr,hmF]
     refine filAwake_c _ _ fun σ3=>?_
     simp -implicitDefEqProofs (maxSteps:=9^9) (disch:=omega) only[go_sem,simprocAttr]
     refine steadyAw_p _ _ ?_
     simp -implicitDefEqProofs (maxSteps:=9^9) (disch:=omega) only[go_sem,simprocAttr]
end Go.Proofs
