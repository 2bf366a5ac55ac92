/- The environment in which the first append to an empty literal of some types gives a slice that is written into. -/
import Derived.Test.YtgbdndlmdklefaaGreatGK36
import Derived.Test.YtgbdndlmdklefaaGreatGK22
import Derived.Test.YtgbdndlmdklefaaGreatGK33
import Derived.Test.YtgbdndlmdklefaaGreatGK13
import Derived.Test.YtgbdndlmdklefaaGreatGK15
set_option linter.unusedSimpArgs false
set_option linter.unusedVariables false
set_option maxRecDepth 100000
set_option maxHeartbeats 40000000
namespace Go.Proofs
open Go Go.Mu
variable {S:MC Tryz.prog}
def Ros.avv(r:Ros)(a n:Nat):AV:= .agg [.int .i64 r.hands,.int .i64 r.skill,.int .i64 r.mn,.int .i64 r.mx,.list .no 2 (r.sets.map Sg.av),.vec a n]
theorem off_v(a n:Nat)(r:Ros)(rates by_:List Int)(h d:Int)(hl:r.sets.length≤1000)(hh:0≤h∧h<rates.length)(hrl:rates.length≤1000)(hd:0≤d∧d≤60)(hr:∀n∈rates, -5≤n∧n≤5):PureV S 69 [r.avv a n,truAV rates by_,.int .i64 h,.int .i64 d] (.int .i64 (offX r rates h d)):=by
 refine PvE (Tryz.envOK (S:=S) 53 (fun _=>([],[])) fs0 fs0_ok) (.int) Tryz.kp69 Tryz.func69 rfl ?_
 intro σ
 obtain⟨hands,skill,mn,mx,sets,ents⟩:=r
 simp only[Ros.avv,truAV,ints1] at hl⊢
 simp -implicitDefEqProofs (maxSteps:=9^9) (disch:=omega) only[go_sem,simprocAttr]
 refine ARun.forS (Tryz.envOK (S:=S) 53 (fun _=>([],[])) fs0 fs0_ok) sets.length (fun _=>True) (fun i=>[(9,.int .i64 ((sets.take i).foldl (setF h d) 0)),(10,.int .i64 i)]) (fun _ _=>σ++[.cells [.int .i64 hands,.int .i64 skill,.int .i64 mn,.int .i64 mx,.list .no 2 (sets.map Sg.av),.vec a n],.cells [.list .no 1 (rates.map (.int .i64)),.list .no 1 (by_.map (.int .i64))]]) [] (by kernel_rfl) rfl (by simp[upd,ins,subF,lookA]) trivial ?_ ?_
 ·intro i j hi _ ih
  rw[take_foldl hi] at ih
  have hidx:idx (sets.map Sg.av) (i:Int)=some (Sg.av sets[i]):=idx_nat hi
  generalize (sets.take i).foldl (setF h d) 0=m at *
  generalize sets[i]=s at hidx ih
  simp only[Sg.av] at hidx
  simp -implicitDefEqProofs (maxSteps:=9^9) (disch:=omega) only[go_sem,simprocAttr,hidx]
  refine⟨fun p1=>⟨fun p2=>?_,fun p2=>?_⟩,fun p1=>?_⟩
  ·exact(ih trivial []).castS rfl (by simp[upd,ins,subF,lookA,setF,p1,p2])
  ·exact(ih trivial []).castS rfl (by simp[upd,ins,subF,lookA,setF,p1,p2])
  ·exact(ih trivial []).castS rfl (by simp[upd,ins,subF,lookA,setF,p1])
 ·intro j _
  rw[List.take_length]
  have hfi:=@fromL_in sets h d hd.1
  have hfe:sets.foldl (setF h d) 0=fromL sets h d:=rfl
  rw[hfe]
  have hrt: -5≤tg rates h∧tg rates h≤5:=by
   have hlt:h.toNat<rates.length:=by omega
   have:tg rates h=rates[h.toNat]:=by simp[tg,List.getD_eq_getElem?_getD,hlt]
   rw[this];exact hr _ (List.getElem_mem hlt)
  have hoo:offX ⟨hands,skill,mn,mx,sets,ents⟩ rates h d=tg rates h*(d-fromL sets h d):=rfl
  rw[hoo]
  have hw1:IntKind.i64.wrap (d-fromL sets h d)=d-fromL sets h d:=wrap64 (by omega) (by omega)
  have hw2:IntKind.i64.wrap (tg rates h*(d-fromL sets h d))=tg rates h*(d-fromL sets h d):=by
   generalize tg rates h=a at hrt
   have h3:0≤d-fromL sets h d∧d-fromL sets h d≤60:=by omega
   generalize d-fromL sets h d=b at h3
   have: -300≤a*b∧a*b≤300:=by
    rcases(by omega:a= -5∨a= -4∨a= -3∨a= -2∨a= -1∨a=0∨a=1∨a=2∨a=3∨a=4∨a=5) with rfl | rfl | rfl | rfl | rfl | rfl | rfl | rfl | rfl | rfl | rfl<;> omega
   exact wrap64 (by omega) (by omega)
  have hidx:idx (rates.map (AV.int .i64)) h=some (.int .i64 (tg rates h)):=idx_tg hh.1 hh.2
  have hmi:=@tget rates h hh.1 hh.2
  simp -implicitDefEqProofs (maxSteps:=9^9) (disch:=omega) only[go_sem,simprocAttr,hw1,hw2,hidx,hmi]
theorem tunedOf_v(a n p:Nat)(r:Ros)(rates by_:List Int)(w:Int)(hw:0≤w∧w≤10)(hh:1≤r.hands∧r.hands≤4)(hs:0≤r.skill∧r.skill≤3)(hrl:(rates.length:Int)=r.hands)(hr:∀n∈rates, -3≤n∧n≤3)(hsl:r.sets.length≤1000)
  (σ:List AObj) (hp:PotAt σ p) (Q:AV→List AObj→Prop) (h:∀s' x b junk,TrueT r rates w x b→Q (.tup [x.av,.int .i64 b]) (pw σ p s'++junk)) :
  ACalls S 64 [.ptr p 0,r.avv a n,truAV rates by_,.int .i64 w] σ Q:=by
 refine ACalls.wkW ?_
 refine AcE (Tryz.envOK (S:=S) 65 Tryz.ord64 fs0 fs0_ok) Tryz.kp64 Tryz.func64 rfl ?_
 have hpl:=hp.lt1
 simp only[Ros.avv,truAV,ints1]
 have hwh:IntKind.i64.wrap (r.hands-1)=r.hands-1:=wrap64 (by omega) (by omega)
 simp -implicitDefEqProofs (maxSteps:=9^9) (disch:=omega) only[go_sem,simprocAttr,hwh]
 refine upto_c p (r.hands-1) (by omega) _ hp.app1 _ fun s1 b b1 b2=>?_
 rw[hpw_app hpl]
 have hb:0≤b∧b<r.hands:=by omega
 clear b1 b2
 simp -implicitDefEqProofs (maxSteps:=9^9) (disch:=omega) only[go_sem,simprocAttr,hlength_pw,hhget_pw0,hhget_pw,hhset_pw0,hhset_pw]
 refine upto_c p 12 (by omega) _ (hp.pw _).app1 _ fun s2 dy d1 d2=>?_
 rw[hpw_pwa hpl]
 have hdy:0≤dy∧dy≤12:=by omega
 clear d1 d2
 simp -implicitDefEqProofs (maxSteps:=9^9) (disch:=omega) only[go_sem,simprocAttr,hlength_pw,hhget_pw0,hhget_pw,hhset_pw0,hhset_pw]
 refine within_c p 500 2000 (by omega) (by omega) _ (hp.pw _).app1 _ fun s3 due e1 e2=>?_
 rw[hpw_pwa hpl]
 have hdue:500≤due∧due≤2000:=by omega
 clear e1 e2
 simp -implicitDefEqProofs (maxSteps:=9^9) (disch:=omega) only[go_sem,simprocAttr,hlength_pw,hhget_pw0,hhget_pw,hhset_pw0,hhset_pw]
 have hoff: -36≤offX r rates b dy∧offX r rates b dy≤36:=by
  have h1:=@fromL_in r.sets b dy hdy.1
  have h2: -3≤tg rates b∧tg rates b≤3:=by
   have hlt:b.toNat<rates.length:=by omega
   have:tg rates b=rates[b.toNat]:=by simp[tg,List.getD_eq_getElem?_getD,hlt]
   rw[this];exact hr _ (List.getElem_mem hlt)
  unfold offX
  generalize tg rates b=a at h2
  have h3:0≤dy-fromL r.sets b dy∧dy-fromL r.sets b dy≤12:=by omega
  generalize dy-fromL r.sets b dy=c at h3
  rcases(by omega:a= -3∨a= -2∨a= -1∨a=0∨a=1∨a=2∨a=3) with rfl | rfl | rfl | rfl | rfl | rfl | rfl<;> omega
 refine off_v a n r rates by_ b dy hsl ⟨hb.1,by omega⟩ (by omega) ⟨by omega,by omega⟩ (fun n hn=>by have:=hr n hn;omega) _ _ ?_
 obtain⟨of,hof⟩:∃of,of=offX r rates b dy:=⟨_,rfl⟩
 rw[← hof] at hoff⊢
 have hwn:IntKind.i64.wrap (0-r.skill)= -r.skill:=by rw[wrap64 (by omega) (by omega)];omega
 simp -implicitDefEqProofs (maxSteps:=9^9) (disch:=omega) only[go_sem,simprocAttr,hlength_pw,hhget_pw0,hhget_pw,hhset_pw0,hhset_pw,hwn]
 refine within_c p (0-r.skill) r.skill (by omega) (by omega) _ (hp.pw _).app1 _ fun s4 er f1 f2=>?_
 rw[hpw_pwa hpl]
 have her: -r.skill≤er∧er≤r.skill:=by omega
 clear f1 f2
 have hwt:IntKind.i64.wrap (due+of+er)=due+of+er:=wrap64 (by omega) (by omega)
 have hwt1:IntKind.i64.wrap (due+of)=due+of:=wrap64 (by omega) (by omega)
 simp -implicitDefEqProofs (maxSteps:=9^9) (disch:=omega) only[go_sem,simprocAttr,hlength_pw,hhget_pw0,hhget_pw,hhset_pw0,hhset_pw,hwt,hwt1]
 refine near_c p (due+of+er) 1 100000 w (by omega) (by omega) _ (hp.pw _).app1 _ fun s5 lo hi c1 c2 c3 c4 c5 c6 junk=>?_
 rw[hpw_pwa hpl,List.append_assoc]
 have hq5:Int.tdiv (due+of+er) 5=(due+of+er)/5:=Int.tdiv_eq_ediv_of_nonneg (by omega)
 have hwq:IntKind.i64.wrap ((due+of+er)/5)=(due+of+er)/5:=wrap64 (by omega) (by omega)
 have hT:∀rds hd,(rds=[]∨rds=[⟨1,0,0,20,⟨(due+of+er)/5,(due+of+er)/5⟩⟩])→(hd=b∨hd= -1)→TrueT r rates w ⟨dy,hd,due,⟨0,[⟨lo,hi⟩],rds⟩⟩ b:=fun rds hd g1 g2=>
  ⟨hb,hdy,g2,hdue,due+of+er,lo,hi,rds,(show -r.skill≤due+of+er- (due+offX r rates b dy)∧due+of+er- (due+offX r rates b dy)≤r.skill by rw[← hof];omega),by omega,g1,rfl⟩
 simp only[Rng.av]
 simp -implicitDefEqProofs (maxSteps:=9^9) (disch:=omega) only[go_sem,simprocAttr,hlength_pw,hhget_pw0,hhget_pw,hhset_pw0,hhset_pw]
 refine odds_c p 1 4 (by omega) (by omega) _ (hp.pw _).app1 _ fun s6 q1=>?_
 rw[hpw_pwa hpl]
 cases q1
 ·simp -implicitDefEqProofs (maxSteps:=9^9) (disch:=omega) only[go_sem,simprocAttr,hlength_pw,hhget_pw0,hhget_pw,hhset_pw0,hhset_pw]
  refine odds_c p 1 2 (by omega) (by omega) _ (hp.pw _).app1 _ fun s7 q2=>?_
  rw[hpw_pwa hpl]
  cases q2
  ·simp -implicitDefEqProofs (maxSteps:=9^9) (disch:=omega) only[go_sem,simprocAttr,hlength_pw,hhget_pw0,hhget_pw,hhset_pw0,hhset_pw]
   exact⟨_,wk_weak (by simp[wk,wkL,wk1,wk0,Tn.av,Tn.cells,Rng.av]),h _ _ _ _ (hT [] b (.inl rfl) (.inl rfl))⟩
  ·simp -implicitDefEqProofs (maxSteps:=9^9) (disch:=omega) only[go_sem,simprocAttr,hlength_pw,hhget_pw0,hhget_pw,hhset_pw0,hhset_pw]
   exact⟨_,wk_weak (by simp[wk,wkL,wk1,wk0,Tn.av,Tn.cells,Rng.av]),h _ _ _ _ (hT [] (-1) (.inl rfl) (.inr rfl))⟩
 ·simp -implicitDefEqProofs (maxSteps:=9^9) (disch:=omega) only[go_sem,simprocAttr,hlength_pw,hhget_pw0,hhget_pw,hhset_pw0,hhset_pw,hq5,hwq]
  refine odds_c p 1 2 (by omega) (by omega) _ (hp.pw _).app1 _ fun s7 q2=>?_
  rw[hpw_pwa hpl]
  cases q2
  ·simp -implicitDefEqProofs (maxSteps:=9^9) (disch:=omega) only[go_sem,simprocAttr,hlength_pw,hhget_pw0,hhget_pw,hhset_pw0,hhset_pw]
   exact⟨_,wk_weak (by simp[wk,wkL,wk1,wk0,Tn.av,Tn.cells,Rng.av,Rd.av]),h _ _ _ _ (hT _ b (.inr rfl) (.inl rfl))⟩
  ·simp -implicitDefEqProofs (maxSteps:=9^9) (disch:=omega) only[go_sem,simprocAttr,hlength_pw,hhget_pw0,hhget_pw,hhset_pw0,hhset_pw]
   exact⟨_,wk_weak (by simp[wk,wkL,wk1,wk0,Tn.av,Tn.cells,Rng.av,Rd.av]),h _ _ _ _ (hT _ (-1) (.inr rfl) (.inr rfl))⟩
theorem rosterOf_v(p:Nat)(H E w:Int)(hH:1≤H∧H≤4)(hE:0≤E∧E≤5)(hw:0≤w∧w≤10)(σ:List AObj)(hp:PotAt σ p)(Q:AV→List AObj→Prop)(h:∀s' r rates by_ o1 o2 o3 o4 o5 o6 junk,TrueR H E w r rates by_→Q (.tup [r.avv (σ.length+6) r.ents.length,truAV rates by_]) (pw σ p s'++(o1::o2::o3::o4::o5::o6:: .vec 6 (r.ents.map Tn.av)::junk))) :
  ACalls S 20 [.ptr p 0,.int .i64 H,.int .i64 E,.int .i64 w] σ Q:=by
 refine ACalls.wkW ?_
 refine AcE (Tryz.envOK (S:=S) 106 Tryz.ord20 fs0 fs0_ok) Tryz.kp20 Tryz.func20 rfl ?_
 have hpl:=hp.lt1
 simp -implicitDefEqProofs (maxSteps:=9^9) (disch:=omega) only[go_sem,simprocAttr]
 refine within_c p 1 H (by omega) (by omega) _ hp.app1 _ fun s1 hands b1 b2=>?_
 rw[hpw_app hpl]
 have hhd:1≤hands∧hands≤H:=by omega
 clear b1 b2
 simp -implicitDefEqProofs (maxSteps:=9^9) (disch:=omega) only[go_sem,simprocAttr,hlength_pw,hhget_pw0,hhget_pw,hhset_pw0,hhset_pw]
 refine upto_c p 3 (by omega) _ (hp.pw _).app1 _ fun s2 skill d1 d2=>?_
 rw[hpw_pwa hpl]
 have hsk:0≤skill∧skill≤3:=by omega
 clear d1 d2
 simp -implicitDefEqProofs (maxSteps:=9^9) (disch:=omega) only[go_sem,simprocAttr,hlength_pw,hhget_pw0,hhget_pw,hhset_pw0,hhset_pw]
 refine within_c p (-3) 1 (by omega) (by omega) _ (hp.pw _).app1 _ fun s3 mn e1 e2=>?_
 rw[hpw_pwa hpl]
 have hmn: -3≤mn∧mn≤1:=by omega
 clear e1 e2
 simp -implicitDefEqProofs (maxSteps:=9^9) (disch:=omega) only[go_sem,simprocAttr,hlength_pw,hhget_pw0,hhget_pw,hhset_pw0,hhset_pw]
 refine within_c p 1 3 (by omega) (by omega) _ (hp.pw _).app1 _ fun s4 mx f1 f2=>?_
 rw[hpw_pwa hpl]
 have hmx:1≤mx∧mx≤3:=by omega
 clear f1 f2
 simp -implicitDefEqProofs (maxSteps:=9^9) (disch:=omega) only[go_sem,simprocAttr,hlength_pw,hhget_pw0,hhget_pw,hhset_pw0,hhset_pw]
 refine ARun.ghostK (σ.length+3) 0 1 (by rw[hhget_pw];rfl) rfl ?_
 simp only[hhset_pw,List.set_cons_succ,List.set_cons_zero,List.append_assoc,List.cons_append,List.nil_append,List.length_append,List.length_cons,List.length_nil,Nat.zero_add,Nat.reduceAdd,hlength_pw]
 refine ARun.loopJ (Tryz.envOK (S:=S) 106 Tryz.ord20 fs0 fs0_ok) (α:=List Int) (fun L=>hands.toNat-L.length)
  (fun L τ=>(∃s,τ=pw σ p s++[rosC 0 0 0 0 (.list .full 0 []) (.list .full 0 []),.cells [.list .full 0 [],.list .full 0 []],rosC hands skill mn mx (.list .full 0 []) (.list .full 0 []),.cells [.list (.own (σ.length+4)) 1 (L.map (.int .i64)),.list .full 0 []],.tail L.length 1])∧(L.length:Int)≤hands∧∀n∈L,n=0∨(mn≤n∧n≤mx))
  (fun L=>[(12,.int .i64 (L.length:Int))]) [] (by kernel_rfl) (by simp[upd,ins,subF,lookA]) ⟨⟨s4,by simp[rosC]⟩,by simp;omega,by simp⟩ ?_
 rintro L τ ⟨⟨s5,rfl⟩,hL1,hL2⟩ ih
 simp only[rosC] at ih⊢
 by_cases hlt:(L.length:Int)<hands
 ·have hlt':((L.length:Int)<hands)=True:=eq_true hlt
  have hwl:IntKind.i64.wrap ((L.length:Int)+1)=(L.length:Int)+1:=wrap64 (by omega) (by omega)
  simp -implicitDefEqProofs (maxSteps:=9^9) (disch:=omega) only[go_sem,simprocAttr,hlength_pw,hhget_pw0,hhget_pw,hhset_pw0,hhset_pw,hlt']
  refine odds_c p 1 3 (by omega) (by omega) _ (hp.pw _).app1 _ fun s6 q1=>?_
  rw[hpw_pwa hpl]
  cases q1
  ·simp -implicitDefEqProofs (maxSteps:=9^9) (disch:=omega) only[go_sem,simprocAttr,hlength_pw,hhget_pw0,hhget_pw,hhset_pw0,hhset_pw,hwl]
   refine(ih (L++[0]) _ (by rw[List.length_append,List.length_singleton];omega) ⟨⟨s6,rfl⟩,by rw[List.length_append,List.length_singleton];omega,fun n hn=>?_⟩).castS (by simp) (by simp[upd,ins,subF,lookA])
   rcases List.mem_append.1 hn with hn | hn
   ·exact hL2 n hn
   ·simp at hn;exact .inl hn
  ·simp -implicitDefEqProofs (maxSteps:=9^9) (disch:=omega) only[go_sem,simprocAttr,hlength_pw,hhget_pw0,hhget_pw,hhset_pw0,hhset_pw,hwl]
   refine within_c p mn mx (by omega) (by omega) _ (hp.pw _).app1 _ fun s7 n n1 n2=>?_
   rw[hpw_pwa hpl]
   simp -implicitDefEqProofs (maxSteps:=9^9) (disch:=omega) only[go_sem,simprocAttr,hlength_pw,hhget_pw0,hhget_pw,hhset_pw0,hhset_pw,hwl]
   refine(ih (L++[n]) _ (by rw[List.length_append,List.length_singleton];omega) ⟨⟨s7,rfl⟩,by rw[List.length_append,List.length_singleton];omega,fun m hm=>?_⟩).castS (by simp) (by simp[upd,ins,subF,lookA])
   rcases List.mem_append.1 hm with hm | hm
   ·exact hL2 m hm
   ·simp at hm;subst hm;exact .inr (by omega)
 ·have hlt':((L.length:Int)<hands)=False:=eq_false hlt
  have hLl:(L.length:Int)=hands:=by omega
  clear ih hlt
  simp -implicitDefEqProofs (maxSteps:=9^9) (disch:=omega) only[go_sem,simprocAttr,hlength_pw,hhget_pw0,hhget_pw,hhset_pw0,hhset_pw,hlt']
  clear hlt'
  refine upto_c p 2 (by omega) _ (hp.pw _).app1 _ fun s6 m m1 m2=>?_
  rw[hpw_pwa hpl]
  have hm:0≤m∧m≤2:=by omega
  clear m1 m2
  simp -implicitDefEqProofs (maxSteps:=9^9) (disch:=omega) only[go_sem,simprocAttr,hlength_pw,hhget_pw0,hhget_pw,hhset_pw0,hhset_pw]
  refine ARun.ghostK (σ.length+2) 4 2 (by rw[hhget_pw];rfl) rfl ?_
  simp only[hhset_pw,List.set_cons_succ,List.set_cons_zero,List.append_assoc,List.cons_append,List.nil_append,List.length_append,List.length_cons,List.length_nil,Nat.zero_add,Nat.reduceAdd,hlength_pw]
  refine ARun.loopJ (Tryz.envOK (S:=S) 106 Tryz.ord20 fs0 fs0_ok) (α:=List Sg) (fun Z=>m.toNat-Z.length)
   (fun Z τ=>(∃s,τ=pw σ p s++[rosC 0 0 0 0 (.list .full 0 []) (.list .full 0 []),.cells [.list .full 0 [],.list .full 0 []],rosC hands skill mn mx (.list (.own (σ.length+5)) 2 (Z.map Sg.av)) (.list .full 0 []),.cells [.list (.own (σ.length+4)) 1 (L.map (.int .i64)),.list .full 0 []],.tail L.length 1,.tail Z.length 2])∧(Z.length:Int)≤m∧∀s∈Z,(0≤s.hand∧s.hand<hands)∧0≤s.day∧s.day≤9)
   (fun Z=>[(14,.int .i64 (m- (Z.length:Int)))]) [] (by kernel_rfl) (by simp[upd,ins,subF,lookA]) ⟨⟨s6,by simp[rosC]⟩,by simp;omega,by simp⟩ ?_
  rintro Z τ ⟨⟨s7,rfl⟩,hZ1,hZ2⟩ ih
  simp only[rosC] at ih⊢
  have hwh:IntKind.i64.wrap (hands-1)=hands-1:=wrap64 (by omega) (by omega)
  by_cases hlt:0<m- (Z.length:Int)
  ·have hlt':(0<m- (Z.length:Int))=True:=eq_true hlt
   have hwm:IntKind.i64.wrap (m- (Z.length:Int)-1)=m- (Z.length:Int)-1:=wrap64 (by omega) (by omega)
   simp -implicitDefEqProofs (maxSteps:=9^9) (disch:=omega) only[go_sem,simprocAttr,hlength_pw,hhget_pw0,hhget_pw,hhset_pw0,hhset_pw,hlt',hwh]
   refine upto_c p (hands-1) (by omega) _ (hp.pw _).app1 _ fun s8 x x1 x2=>?_
   rw[hpw_pwa hpl]
   have hx:0≤x∧x<hands:=by omega
   clear x1 x2
   simp -implicitDefEqProofs (maxSteps:=9^9) (disch:=omega) only[go_sem,simprocAttr,hlength_pw,hhget_pw0,hhget_pw,hhset_pw0,hhset_pw,hlt',hwh]
   refine upto_c p 9 (by omega) _ (hp.pw _).app1 _ fun s9 y y1 y2=>?_
   rw[hpw_pwa hpl]
   have hy:0≤y∧y≤9:=by omega
   clear y1 y2
   simp -implicitDefEqProofs (maxSteps:=9^9) (disch:=omega) only[go_sem,simprocAttr,hlength_pw,hhget_pw0,hhget_pw,hhset_pw0,hhset_pw,hlt',hwh,hwm]
   refine(ih (Z++[⟨x,y⟩]) _ (by rw[List.length_append,List.length_singleton];omega) ⟨⟨s9,rfl⟩,by rw[List.length_append,List.length_singleton];omega,fun z hz=>?_⟩).castS (by simp[Sg.av]) (by simp[upd,ins,subF,lookA];omega)
   rcases List.mem_append.1 hz with hz | hz
   ·exact hZ2 z hz
   ·simp at hz;subst hz;exact⟨hx,hy⟩
  ·have hlt':(0<m- (Z.length:Int))=False:=eq_false hlt
   have hZl:Z.length≤2:=by omega
   clear ih hlt
   simp -implicitDefEqProofs (maxSteps:=9^9) (disch:=omega) only[go_sem,simprocAttr,hlength_pw,hhget_pw0,hhget_pw,hhset_pw0,hhset_pw,hlt']
   clear hlt' hZ1
   refine upto_c p E (by omega) _ (hp.pw _).app1 _ fun s8 n n1 n2=>?_
   rw[hpw_pwa hpl]
   have hn:0≤n∧n≤E:=by omega
   clear n1 n2
   simp -implicitDefEqProofs (maxSteps:=9^9) (disch:=omega) only[go_sem,simprocAttr,hlength_pw,hhget_pw0,hhget_pw,hhset_pw0,hhset_pw]
   refine ARun.ghostVK (σ.length+2) 5 6 (by rw[hhget_pw];rfl) rfl ?_
   simp only[hhset_pw,List.set_cons_succ,List.set_cons_zero,List.append_assoc,List.cons_append,List.nil_append,List.length_append,List.length_cons,List.length_nil,Nat.zero_add,Nat.reduceAdd,hlength_pw]
   refine ARun.ghostK (σ.length+3) 1 1 (by rw[hhget_pw];rfl) rfl ?_
   simp only[hhset_pw,List.set_cons_succ,List.set_cons_zero,List.append_assoc,List.cons_append,List.nil_append,List.length_append,List.length_cons,List.length_nil,Nat.zero_add,Nat.reduceAdd,hlength_pw]
   refine ARun.loopJ (Tryz.envOK (S:=S) 106 Tryz.ord20 fs0 fs0_ok) (α:=List Tn×List Int) (fun a=>n.toNat-a.1.length)
    (fun a τ=>(∃s j,τ=pw σ p s++(rosC 0 0 0 0 (.list .full 0 []) (.list .full 0 []):: .cells [.list .full 0 [],.list .full 0 []]::rosC hands skill mn mx (.list (.own (σ.length+5)) 2 (Z.map Sg.av)) (.vec (σ.length+6) a.1.length):: .cells [.list (.own (σ.length+4)) 1 (L.map (.int .i64)),.list (.own (σ.length+7)) 1 (a.2.map (.int .i64))]:: .tail L.length 1:: .tail Z.length 2:: .vec 6 (a.1.map Tn.av):: .tail a.2.length 1::j))∧(a.1.length:Int)≤n∧a.2.length=a.1.length∧∀i (h:i<a.1.length) (h':i<a.2.length),TrueT ⟨hands,skill,mn,mx,Z,[]⟩ L w a.1[i] a.2[i])
    (fun a=>[(15,.int .i64 (n- (a.1.length:Int)))]) ([],[]) (by kernel_rfl) (by simp[upd,ins,subF,lookA]) ⟨⟨s8,[],by simp[rosC]⟩,by simp;omega,rfl,by simp⟩ ?_
   rintro⟨X,B⟩ τ ⟨⟨s9,j,rfl⟩,hX1,hX2,hX3⟩ ih
   simp only[rosC] at ih hX1 hX2 hX3⊢
   by_cases hlt:0<n- (X.length:Int)
   ·have hlt':(0<n- (X.length:Int))=True:=eq_true hlt
    have hwm:IntKind.i64.wrap (n- (X.length:Int)-1)=n- (X.length:Int)-1:=wrap64 (by omega) (by omega)
    simp -implicitDefEqProofs (maxSteps:=9^9) (disch:=omega) only[go_sem,simprocAttr,hlength_pw,hhget_pw0,hhget_pw,hhset_pw0,hhset_pw,hlt']
    refine ACalls.weaken (l':=[.ptr p 0,(⟨hands,skill,mn,mx,Z,X⟩: Ros).avv (σ.length+6) X.length,truAV L B,.int .i64 w]) ⟨rfl,⟨rfl,rfl,rfl,rfl,⟨rfl,.inl rfl,.inl rfl⟩,rfl,trivial⟩,⟨⟨rfl,.inl rfl,.inl rfl⟩,⟨rfl,.inl rfl,.inl rfl⟩,trivial⟩,rfl,trivial⟩ ?_
    refine tunedOf_v _ _ p ⟨hands,skill,mn,mx,Z,X⟩ L B w hw (by simp only;omega) (by simp only;omega) (by simp only;omega) (fun z hz=>by have:=hL2 z hz;omega) (by simp only;omega) _ (hp.pw _).app1 _ fun s10 x b junk hT=>?_
    rw[hpw_pwa hpl,List.append_assoc]
    have hxav:x.av= .agg x.cells:=rfl
    simp only[hxav,Tn.cells]
    simp -implicitDefEqProofs (maxSteps:=9^9) (disch:=omega) only[go_sem,simprocAttr,hlength_pw,hhget_pw0,hhget_pw,hhset_pw0,hhset_pw,hX2,hwm]
    refine(ih (X++[x],B++[b]) _ (by simp only[List.length_append,List.length_singleton];omega) ⟨⟨s10,j++junk++[.cells x.cells],rfl⟩,by simp only[List.length_append,List.length_singleton];omega,by simp[hX2],fun i g1 g2=>?_⟩).castS (by simp[hX2,hxav,Tn.cells]) (by simp[upd,ins,subF,lookA];omega)
    simp only at g1 g2⊢
    rw[List.length_append,List.length_singleton] at g1 g2
    rw[List.getElem_append,List.getElem_append]
    split<;> split
    ·exact hX3 i (by assumption) (by assumption)
    ·omega
    ·omega
    ·simp only[List.getElem_singleton]
     exact hT.congr rfl rfl rfl
   ·have hlt':(0<n- (X.length:Int))=False:=eq_false hlt
    simp -implicitDefEqProofs (maxSteps:=9^9) (disch:=omega) only[go_sem,simprocAttr,hlength_pw,hhget_pw0,hhget_pw,hhset_pw0,hhset_pw,hlt']
    have hT:TrueR H E w ⟨hands,skill,mn,mx,Z,X⟩ L B:=⟨hhd,hsk,hmn,hmx,hLl,hL2,hZl,hZ2,(show(X.length:Int)≤E by omega),hX2,fun i g1 g2=>(hX3 i g1 g2).congr rfl rfl rfl⟩
    exact⟨_,wk_weak (by simp[wk,wkL,wk1,wk0,Ros.avv,truAV,ints1]),h _ _ _ _ _ _ _ _ _ _ _ hT⟩
end Go.Proofs
namespace Go.Proofs
open Go Go.Mu Go.Ins
theorem hfirstE_of{α:Type}{f:α→Int}:∀{l:List α},(∀x∈l,f x=0)→firstE f l=0
 | [],_=>rfl
 | x::l,h=>by
  show(if f x=0 then firstE f l else f x)=0
  rw[if_pos (h x (by simp))]
  exact hfirstE_of fun y hy=>h y (by simp[hy])
theorem truthsL_one(sl lo hi:Int)(rds:List Rd):truthsL ⟨sl,[⟨lo,hi⟩],rds⟩=(List.range (hi-lo+1).toNat).flatMap fun(k:Nat)=>allT ⟨sl,[⟨lo,hi⟩],rds⟩ 0 (setI [0,0,0] ((0:Nat):Int) (lo+k)) 1:=rfl
theorem trueT_chk{r:Ros}{rates:List Int}{w:Int}{x:Tn}{b:Int}(h:TrueT r rates w x b)(hw:0≤w∧w≤10)(hs:0≤r.skill∧r.skill≤3) :
  (chkE x r.hands).2=0∧∃d∈(chkE x r.hands).1, -r.skill≤d-offX r rates b x.day∧d-offX r rates b x.day≤r.skill:=by
 obtain⟨t,lo,hi,rds,⟨e1,e2⟩,g2,g3,g4⟩:=h.ear
 have hb:=h.by_in
 have hd:=h.day
 have hh:=h.hand
 have hdu:=h.due
 obtain⟨day,hand,due,ear⟩:=x
 simp only at g4 hd hh hdu e1 e2⊢
 subst g4
 have hck:ck ⟨0,[⟨lo,hi⟩],rds⟩= 0:=by
  unfold ck
  have hT:firstE ckT [(⟨lo,hi⟩: Rng)]=0:=by
   refine hfirstE_of (fun y hy=>?_)
   simp at hy;subst hy
   unfold ckT
   dsimp only
   repeat' split
   all_goals omega
  have hR:firstE (fun r=>ckR r (1:Nat)) rds=0:=by
   refine hfirstE_of (fun y hy=>?_)
   rcases g3 with rfl | rfl
   ·simp at hy
   ·simp at hy;subst hy
    unfold ckR
    simp only
    repeat' split
    all_goals omega
  have hl:rds.length≤1:=by rcases g3 with rfl | rfl<;> simp
  simp only[List.length_cons,List.length_nil,Nat.zero_add]
  rw[if_neg (by omega),if_neg (by omega),if_neg (by omega),if_neg (fun c=>c hT),if_neg (by omega)]
  exact hR
 have htm:[t,0,0]∈truthsL ⟨0,[⟨lo,hi⟩],rds⟩:=by
  rw[truthsL_one,List.mem_flatMap]
  refine⟨(t-lo).toNat,List.mem_range.2 (by omega),?_⟩
  have hts:setI [0,0,0] ((0:Nat):Int) (lo+((t-lo).toNat:Int))=[t,0,0]:=by
   rw[show lo+((t-lo).toNat:Int)=t by omega];rfl
  have hal:(rds.all fun r=>isR r 0 [t,0,0])=true:=by
   rcases g3 with rfl | rfl
   ·rfl
   ·simp only[List.all_cons,List.all_nil,Bool.and_true,isR,if_true,tg]
    exact decide_eq_true (by
     have:([t,0,0]:List Int).getD (Int.toNat 0) 0=t:=rfl
     rw[this];omega)
  rw[hts]
  show[t,0,0]∈if(rds.all fun r=>isR r 0 [t,0,0])=true then[[t,0,0]] else[]
  rw[if_pos hal];simp
 have hn:truthsL ⟨0,[⟨lo,hi⟩],rds⟩≠[]:=List.ne_nil_of_mem htm
 rw[chkE_one (by simp only;omega) (by simp only;omega) (by simp only;omega) hck rfl hn]
 refine⟨rfl,t-due,List.mem_map.2 ⟨t,?_,rfl⟩,by omega,by omega⟩
 have:t∈firstsL ((truthsL ⟨0,[⟨lo,hi⟩],rds⟩).map fun t=>tg t 0):=(addN_mem _ [] _).2 (.inr (List.mem_map.2 ⟨[t,0,0],htm,rfl⟩))
 exact this
theorem TrueR.head{H E w:Int}{r:Ros}{rates by_:List Int}(h:TrueR H E w r rates by_)(hH:H≤4)(hE:E≤5):headE r=0:=by
 have h1:=h.hands
 have h2:=h.skill
 have h3:=h.mn
 have h4:=h.mx
 have h5:=h.sl
 have h6:=h.el
 have hs:firstE (setE r.hands) r.sets=0:=hfirstE_of fun s hs=>by
  have:=h.set s hs
  unfold setE
  rw[if_neg (by omega),if_neg (by omega)]
 unfold headE
 rw[if_neg (by omega),if_neg (by omega),if_neg (by omega),if_neg (fun c=>c hs),if_neg (by omega)]
theorem TrueR.by_at{H E w:Int}{r:Ros}{rates by_:List Int}(h:TrueR H E w r rates by_){x:Tn}(hx:x∈r.ents):∃b,TrueT r rates w x b:=by
 obtain⟨i,hi,rfl⟩:=List.mem_iff_getElem.1 hx
 exact⟨_,h.ent i hi (by rw[h.bl];exact hi)⟩
theorem TrueR.entE{H E w:Int}{r:Ros}{rates by_:List Int}(h:TrueR H E w r rates by_)(hw:0≤w∧w≤10):entsE r=0:=by
 unfold entsE
 refine firstNZ_zero fun e he=>?_
 obtain⟨x,hx,rfl⟩:=List.mem_map.1 he
 obtain⟨b,hb⟩:=h.by_at hx
 exact(trueT_chk hb hw h.skill).1
theorem lone_fit:loneR.Fit:=⟨by decide,by decide,by decide +kernel⟩
theorem TrueR.fit{H E w:Int}{r:Ros}{rates by_:List Int}(h:TrueR H E w r rates by_)(hE:E≤5):r.Fit:=by
 have h1:=h.sl
 have h2:=h.el
 refine⟨by omega,by omega,fun x hx=>?_⟩
 obtain⟨b,hb⟩:=h.by_at hx
 obtain⟨t,lo,hi,rds,_,_,g3,g4⟩:=hb.ear
 rw[g4]
 rcases g3 with rfl | rfl<;> simp
end Go.Proofs
namespace Go.Proofs
open Go Go.Mu Go.Ins
variable {S:MC Tryz.prog}
def dueX(x:Tn)(d:Int):Tn:={x with due:=x.due+d}
def oddX(r:Ros)(i:Nat)(d:Int):Ros:={r with ents:=r.ents.set i (dueX (r.ents.getD i default) d)}
end Go.Proofs
namespace Go.Proofs
open Go Go.Mu Go.Ins
def setN(l:List Int):Nat:=l.foldl (fun s h=>s|||2^h.toNat) 0
theorem setN_succ{l:List Int}{i:Nat}(hi:i<l.length):setN (l.take (i+1))=setN (l.take i)|||2^l[i].toNat:=by
 unfold setN;rw[List.take_succ_eq_append_getElem hi,List.foldl_append];rfl
theorem setN_lt{l:List Int}{n:Nat}(h:∀x∈l,0≤x∧x<n):setN l<2^n:=by
 have key:∀(l:List Int) (s:Nat),s<2^n→(∀x∈l,0≤x∧x<(n:Int))→l.foldl (fun s h=>s|||2^h.toNat) s<2^n:=by
  intro l
  induction l with
  | nil=>intro s hs _;exact hs
  | cons x l ih=>
   intro s hs hx
   have:=hx x (by simp)
   exact ih _ (Nat.or_lt_two_pow hs (Nat.pow_lt_pow_right (by omega) (by omega))) fun y hy=>hx y (by simp[hy])
 exact key l 0 (Nat.two_pow_pos n) h
theorem explains_p(r:Ros)(hf:r.Fit)(hg:r.Good)(hh0:headE r=0)(he0:entsE r=0)(l:List Int)(hl:∀x∈l,0≤x∧x<r.hands)(hn:l.length≤1000)(ha:l.Pairwise (· < ·)) :
  PureV SBes 47 [r.av,ints1 l] (.tup [.bool (decide (htruthsR r (entsL r) (setN l)≠[])),.int .i64 0]):=by
 refine PvE (Tryz.envOK (S:=SBes) 54 (fun _=>([],[])) fs405 fs405_ok) (.tup (by simp only[List.mem_cons,List.not_mem_nil,or_false,forall_eq_or_imp,forall_eq];exact⟨.bool,.int⟩)) Tryz.kp47 Tryz.func47 rfl ?_
 intro σ
 have hhd:=hg.hands
 have hH:(r.hands.toNat:Int)=r.hands:=by omega
 have hlt:∀i,setN (l.take i)<16:=fun i=>by
  have h1:=setN_lt (l:=l.take i) (n:=r.hands.toNat) fun x hx=>by rw[hH];exact hl x (List.mem_of_mem_take hx)
  have hp:(2:Nat)^r.hands.toNat≤2^4:=Nat.pow_le_pow_right (by omega) (by omega)
  omega
 simp only[Ros.av,ints1]
 simp -implicitDefEqProofs (maxSteps:=9^9) (disch:=omega) only[go_sem,simprocAttr]
 refine rosterOf_ok r hh0 (by have:=hf.sets;omega) (hf.ok hh0) _ _ ?_
 rw[he0]
 simp only[Ros.wav]
 simp -implicitDefEqProofs (maxSteps:=9^9) (disch:=omega) only[go_sem,simprocAttr]
 refine ARun.forS (Tryz.envOK (S:=SBes) 54 (fun _=>([],[])) fs405 fs405_ok) l.length (fun _=>True) (fun i=>[(8,.int .u64 (setN (l.take i))),(21,.int .i64 i)]) (fun _ _=>σ++[.cells [.int .i64 r.hands,.int .i64 r.skill,.int .i64 r.mn,.int .i64 r.mx,.list .no 2 (r.sets.map Sg.av),.list .no 6 (r.ents.map Tn.av)],.cells (r.wcells (entsL r))]) [] (by kernel_rfl) (by simp[Ros.wcells]) (by simp[upd,ins,subF,lookA,setN]) trivial ?_ ?_
 ·intro i j hi _ ih
  have hidx:idx (l.map (AV.int .i64)) (i:Int)=some (.int .i64 l[i]):=by rw[idx_nat hi]
  have hx:=hl _ (List.getElem_mem hi)
  have hs:=hlt i
  rw[setN_succ hi] at ih
  have hxn:((l[i].toNat:Nat):Int)=l[i]:=by omega
  have hpr:0<i→∃y,idx (l.map (AV.int .i64)) ((i:Int)-1)=some (.int .i64 y)∧y<l[i]:=fun h0=>by
   refine⟨l[i-1],?_,List.pairwise_iff_getElem.1 ha (i-1) i (by omega) hi (by omega)⟩
   rw[show(i:Int)-1=((i-1:Nat):Int) by omega,idx_nat (by omega)]
  generalize setN (l.take i)=s at hs ih⊢
  generalize l[i]=x at *
  obtain⟨n,rfl⟩:∃n:Nat,x=n:=⟨x.toNat,by omega⟩
  rw[Int.toNat_natCast] at ih
  have hn4:n<4:=by omega
  have hwh:IntKind.i64.wrap (r.hands-1)=r.hands-1:=wrap64 (by omega) (by omega)
  have hwi:IntKind.i64.wrap ((i:Int)-1)=(i:Int)-1:=wrap64 (by omega) (by omega)
  have hin1:((n:Int)≤r.hands-1)=True:=eq_true (by omega)
  by_cases h0:0<i
  ·obtain⟨y,hy,hyx⟩:=hpr h0
   have h0':(0<(i:Int))=True:=eq_true (by omega)
   have hyx':((n:Int)≤y)=False:=eq_false (by omega)
   simp -implicitDefEqProofs (maxSteps:=9^9) (disch:=omega) only[go_sem,simprocAttr,hidx,hwh,hin1,h0',hwi,hy,hyx']
   exact(ih trivial []).castS (by simp[Ros.wcells]) (by simp[upd,ins,subF,lookA])
  ·have h0':(0<(i:Int))=False:=eq_false (by omega)
   simp -implicitDefEqProofs (maxSteps:=9^9) (disch:=omega) only[go_sem,simprocAttr,hidx,hwh,hin1,h0']
   exact(ih trivial []).castS (by simp[Ros.wcells]) (by simp[upd,ins,subF,lookA])
 ·intro j _
  rw[List.take_length]
  have hs:=hlt l.length
  rw[List.take_length] at hs
  have hlen:=htruthsR_len hg.toHead (ds:=entsL r) (s:=setN l)
  have hmap:((htruthsR r (entsL r) (setN l)).map rtv).length=(htruthsR r (entsL r) (setN l)).length:=by simp
  have hde:(0<((htruthsR r (entsL r) (setN l)).length:Int))↔htruthsR r (entsL r) (setN l)≠[]:=by
   rw[← List.length_pos_iff];omega
  have hde2:decide (0<((htruthsR r (entsL r) (setN l)).length:Int))=decide (htruthsR r (entsL r) (setN l)≠[]):=by simp only[hde]
  simp -implicitDefEqProofs (maxSteps:=9^9) (disch:=omega) only[go_sem,simprocAttr,Ros.wcells]
  refine htruths_p r (entsL r) hg.work (setN l) hs _ _ ?_
  generalize htruthsR r (entsL r) (setN l)=T at hmap hde hde2 hlen⊢
  simp -implicitDefEqProofs (maxSteps:=9^9) (disch:=omega) only[go_sem,simprocAttr,hmap,hde2]
  by_cases hz:T=[]<;> simp[hz]
end Go.Proofs
namespace Go.Proofs
open Go Go.Mu
variable {S:MC Tryz.prog}
def hcomb(n:Nat):Nat→Nat→List (List Int)
 | 0,_=>[[]]
 | m+1,a=>(List.range (n-a)).flatMap fun k=>(hcomb n m (a+k+1)).map fun l=>((a+k:Nat):Int)::l
theorem hcomb_mem{n:Nat}:∀{m a:Nat} {l:List Int},l∈hcomb n m a→l.length=m∧(∀x∈l,(a:Int)≤x∧x<n)∧l.Pairwise (· < ·)
 | 0,a,l,h=>by simp[hcomb] at h;subst h;simp
 | m+1,a,l,h=>by
  obtain⟨k,hk,h2⟩:=List.mem_flatMap.1 h
  obtain⟨u,hu,rfl⟩:=List.mem_map.1 h2
  obtain⟨h3,h4,h5⟩:=hcomb_mem hu
  have hk':=List.mem_range.1 hk
  refine⟨by simp[h3],fun x hx=>?_,?_⟩
  ·rcases List.mem_cons.1 hx with rfl | hx
   ·omega
   ·have:=h4 x hx;omega
  ·rw[List.pairwise_cons]
   exact⟨fun y hy=>by have:=h4 y hy;omega,h5⟩
end Go.Proofs
namespace Go.Proofs
open Go Go.Mu Go.Ins
theorem comb_set1:∀n<5,∀m<5,∀x∈hcomb n m 0,setN x<2^n∧popF (setN x)=m∧listN (setN x)=x:=by decide +kernel
theorem comb_set2:∀n<5,∀s<2^n,listN s∈hcomb n (popF s) 0∧setN (listN s)=s:=by decide +kernel
theorem comb_set:∀n<5,∀m<5,(∀x∈hcomb n m 0,setN x<2^n∧popF (setN x)=m∧listN (setN x)=x)∧(∀s<2^n,popF s=m→listN s∈hcomb n m 0∧setN (listN s)=s):=fun n hn m hm=>
 ⟨comb_set1 n hn m hm,fun s hs e=>by have:=comb_set2 n hn s hs;rw[e] at this;exact this⟩
theorem comb_ord:∀n<5,∀m<5,(hcomb n m 0).Nodup∧(hcomb n m 0).Pairwise (fun a b=>cmpL a b≤0):=by decide +kernel
theorem list_set:∀s<16,setN (listN s)=s:=by decide +kernel
def hdue(r:Ros)(m:Nat):List (List Int):=(hcomb r.hands.toNat m 0).filter fun l=>decide (htruthsR r (entsL r) (setN l)≠[])
theorem found_due{r:Ros}(hr:r.Head){m:Nat}(hm:m≤r.hands.toNat):foundR r (entsL r) m=[]↔hdue r m=[]:=by
 have hh:=hr.hands
 obtain⟨c1,c2⟩:=comb_set r.hands.toNat (by omega) m (by omega)
 have hp:(2:Nat)^r.hands.toNat≤2^4:=Nat.pow_le_pow_right (by omega) (by omega)
 constructor
 ·intro h
  unfold hdue
  rw[List.filter_eq_nil_iff]
  intro x hx hd
  obtain⟨g1,g2,_⟩:=c1 x hx
  obtain⟨u,hu⟩:=List.exists_mem_of_ne_nil _ (of_decide_eq_true hd)
  have:=(foundR_mem hr (m:=m)).2 ⟨setN x,g1,by rw[← popF_eq _ (by omega)];exact g2,hu⟩
  rw[h] at this;simp at this
 ·intro h
  refine List.eq_nil_iff_forall_not_mem.2 fun u hu=>?_
  obtain⟨s,g1,g2,g3⟩:=(foundR_mem hr).1 hu
  obtain⟨k1,k2⟩:=c2 s g1 (by rw[popF_eq _ (by omega)];exact g2)
  have:listN s∈hdue r m:=List.mem_filter.2 ⟨k1,decide_eq_true (by rw[k2];exact List.ne_nil_of_mem g3)⟩
  rw[h] at this;simp at this
theorem sets_due{r:Ros}(hr:r.Head){m:Nat}(hm:m≤r.hands.toNat)(he:explR r (entsL r)=(foundR r (entsL r) m).foldl addX []):setsL (explR r (entsL r))=hdue r m:=by
 have hh:=hr.hands
 obtain⟨c1,c2⟩:=comb_set r.hands.toNat (by omega) m (by omega)
 obtain⟨o1,o2⟩:=comb_ord r.hands.toNat (by omega) m (by omega)
 have hp:(2:Nat)^r.hands.toNat≤2^4:=Nat.pow_le_pow_right (by omega) (by omega)
 have hdl:∀s,s∈driftsL (explR r (entsL r))↔s<2^r.hands.toNat∧popN s=m∧htruthsR r (entsL r) s≠[]:=fun s=>by
  unfold driftsL
  rw[addX_mem,List.mem_map]
  constructor
  ·rintro(h | ⟨u,hu,rfl⟩)
   ·simp at h
   ·obtain⟨g1,g2,g3⟩:=found_pop hr ((explR_iff he).1 hu)
    exact⟨g2,g1,List.ne_nil_of_mem g3⟩
  ·rintro⟨g1,g2,g3⟩
   obtain⟨u,hu⟩:=List.exists_mem_of_ne_nil _ g3
   exact .inr ⟨u,(explR_iff he).2 ((foundR_mem hr).2 ⟨s,g1,g2,hu⟩),driftN_of hr g1 (List.mem_filter.1 hu).1⟩
 refine(isort_eq (le:=leL) leL_trans leL_total (fun _ _=>leL_anti) (o2.filter _) ?_).symm
 refine(List.perm_ext_iff_of_nodup (o1.filter _) ?_).2 fun x=>?_
 ·rw[List.Nodup,List.pairwise_map]
  refine(addX_nodup List.nodup_nil:(driftsL (explR r (entsL r))).Nodup).imp_of_mem fun{a b} ha hb hab e=>hab ?_
  have h1:=(hdl a).1 ha
  have h2:=(hdl b).1 hb
  rw[← list_set a (by omega),← list_set b (by omega),e]
 ·rw[List.mem_map,List.mem_filter,decide_eq_true_eq]
  constructor
  ·rintro⟨hx,hd⟩
   obtain⟨g1,g2,g3⟩:=c1 x hx
   exact⟨setN x,(hdl _).2 ⟨g1,by rw[← popF_eq _ (by omega)];exact g2,hd⟩,g3⟩
  ·rintro⟨s,hs,rfl⟩
   obtain⟨g1,g2,g3⟩:=(hdl s).1 hs
   obtain⟨k1,k2⟩:=c2 s g1 (by rw[popF_eq _ (by omega)];exact g2)
   exact⟨k1,by rw[k2];exact g3⟩
theorem fewL_none{r:Ros}(hg:r.Good)(hro:rosE r=0)(h:∀m,m≤r.hands.toNat→hdue r m=[]):knownE r []=11∧fewL r=[]:=by
 have he:explR r (entsL r)=[]:=by
  rcases explR_spec r (entsL r) with⟨h1,_⟩ | ⟨m,h1,_,h3,_⟩
  ·exact h1
  ·exact absurd ((found_due hg.toHead h1).2 (h m h1)) h3
 have hk:knownE r []=11:=by
  unfold knownE
  rw[if_neg (fun c=>c hro),if_neg (fun c=>c rfl),if_pos he]
 exact⟨hk,by unfold fewL;rw[hk];rfl⟩
theorem fewL_some{r:Ros}(hg:r.Good)(hro:rosE r=0){m:Nat}(hm:m≤r.hands.toNat)(h1:hdue r m≠[])(h0:∀j,j<m→hdue r j=[]):knownE r []=0∧fewL r=hdue r m:=by
 rcases explR_spec r (entsL r) with⟨_,g⟩ | ⟨k,g1,g2,g3,g4⟩
 ·exact absurd ((found_due hg.toHead hm).1 (g m hm)) h1
 ·have hkm:k=m:=by
   rcases Nat.lt_trichotomy k m with c | c | c
   ·exact absurd ((found_due hg.toHead g1).2 (h0 k c)) g3
   ·exact c
   ·exact absurd ((found_due hg.toHead hm).1 (g4 m c)) h1
  subst hkm
  have hne:explR r (entsL r)≠[]:=by rw[g2];exact fun e=>g3 (addX_nil.1 e)
  have hk:knownE r []=0:=by
   unfold knownE
   rw[if_neg (fun c=>c hro),if_neg (fun c=>c rfl),if_neg hne]
  exact⟨hk,by unfold fewL;rw[if_pos hk];exact sets_due hg.toHead hm g2⟩
end Go.Proofs
namespace Go.Proofs
open Go Go.Mu
end Go.Proofs
namespace Go.Proofs
open Go Go.Mu Go.Ins
end Go.Proofs
namespace Go.Proofs
open Go Go.Mu Go.Ins
variable {S:MC Tryz.prog}
end Go.Proofs
namespace Go.Proofs
open Go Go.Mu Go.Ins
def oneB(sl:Int)(rds:List Rd)(v:Int):Bool:=rds.all fun r=>isR r sl [v,0,0]
def oneV(sl lo hi:Int)(rds:List Rd):List Int:=((List.range (hi-lo+1).toNat).filter fun(k:Nat)=>oneB sl rds (lo+k)).map fun(k:Nat)=>lo+(k:Int)
theorem flat_if{α:Type}(P:Nat→Bool)(f:Nat→α):∀l:List Nat,(l.flatMap fun k=>if P k then[f k] else[])=(l.filter P).map f
 | []=>rfl
 | k::l=>by
  rw[List.flatMap_cons,flat_if P f l,List.filter_cons]
  by_cases h:P k=true
  ·rw[if_pos h,if_pos h];rfl
  ·rw[if_neg h,if_neg h];rfl
theorem truths_one(sl lo hi:Int)(rds:List Rd):truthsL ⟨sl,[⟨lo,hi⟩],rds⟩=(oneV sl lo hi rds).map fun v=>[v,0,0]:=by
 rw[truthsL_one]
 unfold oneV
 rw[List.map_map]
 exact flat_if (fun(k:Nat)=>oneB sl rds (lo+k)) (fun(k:Nat)=>[lo+(k:Int),0,0]) _
theorem oneV_mem{sl lo hi:Int}{rds:List Rd}{v:Int}:v∈oneV sl lo hi rds↔(lo≤v∧v≤hi)∧oneB sl rds v=true:=by
 unfold oneV
 simp only[List.mem_map,List.mem_filter,List.mem_range]
 constructor
 ·rintro⟨k,⟨h1,h2⟩,rfl⟩;exact⟨by omega,h2⟩
 ·rintro⟨h1,h2⟩
  have e:lo+((v-lo).toNat:Int)=v:=by omega
  exact⟨(v-lo).toNat,⟨by omega,by rw[e];exact h2⟩,e⟩
theorem oneV_asc(sl lo hi:Int)(rds:List Rd):(oneV sl lo hi rds).Pairwise (· < ·):=by
 unfold oneV
 rw[List.pairwise_map]
 exact(List.pairwise_lt_range.filter _).imp fun h=>by omega
theorem oneV_firsts(sl lo hi:Int)(rds:List Rd):firstsL ((truthsL ⟨sl,[⟨lo,hi⟩],rds⟩).map fun t=>tg t 0)=oneV sl lo hi rds:=by
 rw[truths_one,List.map_map]
 have e:((fun t=>tg t 0)∘fun(v:Int)=>[v,0,0])=id:=by funext v;rfl
 rw[e,List.map_id]
 have:=firsts_self (oneV sl lo hi rds) [] (by rw[List.nil_append];exact(oneV_asc sl lo hi rds).imp fun h=>by omega)
 simpa[firstsL] using this
theorem oneV_nil{sl lo hi:Int}{rds:List Rd}(h:oneV sl lo hi rds≠[]):truthsL ⟨sl,[⟨lo,hi⟩],rds⟩≠[]:=by
 rw[truths_one];simpa using h
theorem chkE_oneV{x:Tn}{h sl lo hi:Int}{rds:List Rd}(h1:0≤x.day∧x.day≤60)(h2: -1≤x.hand∧x.hand≤h-1)(h3:1≤x.due∧x.due≤100000)(he:x.ear=⟨sl,[⟨lo,hi⟩],rds⟩)(hk:ck x.ear=0)(hn:oneV sl lo hi rds≠[]) :
  chkE x h=((oneV sl lo hi rds).map (· - x.due),0):=by
 rw[chkE_one h1 h2 h3 hk (by rw[he];rfl) (by rw[he];exact oneV_nil hn),he,oneV_firsts]
def devR(l:List Int):Rng:=⟨tg l 0,tg l ((l.length:Int)-1)⟩
theorem asc_tg{l:List Int}(h:l.Pairwise (· < ·)){v:Int}(hv:v∈l):tg l 0≤v∧v≤tg l ((l.length:Int)-1):=by
 obtain⟨i,hi,rfl⟩:=List.mem_iff_getElem.1 hv
 have e0:tg l 0=l[0]'(by omega):=by unfold tg;rw[show Int.toNat 0=0 from rfl,List.getD_eq_getElem?_getD,List.getElem?_eq_getElem (by omega)];rfl
 have e1:tg l ((l.length:Int)-1)=l[l.length-1]'(by omega):=by
  unfold tg;rw[show((l.length:Int)-1).toNat=l.length-1 by omega,List.getD_eq_getElem?_getD,List.getElem?_eq_getElem (by omega)];rfl
 rw[e0,e1]
 have hp:=List.pairwise_iff_getElem.1 h
 constructor
 ·by_cases c:i=0
  ·subst c;exact Int.le_refl _
  ·exact Int.le_of_lt (hp 0 i (by omega) hi (by omega))
 ·by_cases c:i=l.length-1
  ·subst c;exact Int.le_refl _
  ·exact Int.le_of_lt (hp i (l.length-1) hi (by omega) (by omega))
theorem tg0_mem{l:List Int}(h:l≠[]):tg l 0∈l:=by
 cases l with
 | nil=>exact absurd rfl h
 | cons a l=>exact List.mem_cons_self
theorem tgl_mem{l:List Int}(h:l≠[]):tg l ((l.length:Int)-1)∈l:=by
 have hl:0<l.length:=List.length_pos_iff.2 h
 unfold tg
 rw[show((l.length:Int)-1).toNat=l.length-1 by omega,List.getD_eq_getElem?_getD,List.getElem?_eq_getElem (by omega)]
 exact List.getElem_mem _
theorem tg_sub{l:List Int}{d i:Int}(h:i.toNat<l.length):tg (l.map (· - d)) i=tg l i-d:=by
 unfold tg
 simp[List.getD_eq_getElem?_getD,List.getElem?_eq_getElem h]
theorem devR_sub{l:List Int}{d:Int}(h:l≠[]):devR (l.map (· - d))=⟨tg l 0-d,tg l ((l.length:Int)-1)-d⟩:=by
 have hl:0<l.length:=List.length_pos_iff.2 h
 unfold devR
 rw[List.length_map,tg_sub (by simpa using hl),tg_sub (by omega)]
theorem oneB_conv{sl:Int}{rds:List Rd}(hr:∀r∈rds,ckR r 1=0){a b y:Int}(ha:oneB sl rds a=true)(hb:oneB sl rds b=true)(h:a≤y∧y≤b):oneB sl rds y=true:=by
 unfold oneB at *
 rw[List.all_eq_true] at *
 intro r hm
 have h0:=hr r hm
 have h1:=ha r hm
 have h2:=hb r hm
 have hkk:r.kind=1∧r.a=0∧r.b=0∧0≤r.sec:=by
  unfold ckR at h0
  repeat' split at h0
  all_goals first | omega | cases h0
 obtain⟨k1,k2,k3,k4⟩:=hkk
 unfold isR at h1 h2⊢
 rw[if_pos k1] at h1 h2⊢
 rw[k2] at h1 h2⊢
 have t0:∀v:Int,tg [v,0,0] 0=v:=fun v=>rfl
 simp only[t0,decide_eq_true_eq] at h1 h2⊢
 have m1:a*r.sec≤y*r.sec:=Int.mul_le_mul_of_nonneg_right h.1 k4
 have m2:y*r.sec≤b*r.sec:=Int.mul_le_mul_of_nonneg_right h.2 k4
 omega
theorem ck_rds{sl lo hi:Int}{rds:List Rd}(hk:ck ⟨sl,[⟨lo,hi⟩],rds⟩= 0):∀r∈rds,ckR r 1=0:=by
 refine firstE_all (f:=fun r=>ckR r (1:Nat)) ?_
 simp only[ck,List.length_cons,List.length_nil] at hk
 grind
theorem oneV_conv{sl lo hi:Int}{rds:List Rd}(hk:ck ⟨sl,[⟨lo,hi⟩],rds⟩= 0){y:Int}(hn:oneV sl lo hi rds≠[])(h:(devR (oneV sl lo hi rds)).lo≤y∧y≤(devR (oneV sl lo hi rds)).hi):y∈oneV sl lo hi rds:=by
 have m1:=oneV_mem.1 (tg0_mem hn)
 have m2:=oneV_mem.1 (tgl_mem hn)
 unfold devR at h
 exact oneV_mem.2 ⟨by simp only at h;omega,oneB_conv (ck_rds hk) m1.2 m2.2 h⟩
end Go.Proofs
