/- Texts of a proof: lemmas. -/
import Derived.Test.YtgbdndlmdklefaaGreatEK36
import Derived.Test.YtgbdndlmdklefaaGreatEK29
import Derived.Test.YtgbdndlmdklefaaGreatEK15
import Derived.Test.YtgbdndlmdklefaaGreatEK16
import Derived.Test.YtgbdndlmdklefaaGreatEK34
import Derived.Test.YtgbdndlmdklefaaGreatEK35
import Derived.Test.YtgbdndlmdklefaaGreatEK31
set_option linter.unusedSimpArgs false
set_option linter.unusedVariables false
set_option maxRecDepth 100000
set_option maxHeartbeats 40000000
namespace Go.Proofs
open Go Go.Mu
variable {S:MC Tryz.prog}
theorem near_c(r:Nat)(n least most wide:Int)(h1:0≤least∧least≤n∧n≤most∧most≤1000000000)(h2:0≤wide∧wide≤1000000)(σ:List AObj)(hp:PotAt σ r)(Q:AV→List AObj→Prop)(h:∀s' a b,least≤a→a≤n→n≤b→b≤most→n-wide≤a→b≤n+wide→∀junk,Q (Rng.mk a b).av (pw σ r s'++junk)):ACalls S 122 [.ptr r 0,.int .i64 n,.int .i64 least,.int .i64 most,.int .i64 wide] σ Q:=by
 refine AcE (Tryz.envOK (S:=S) 32 (fun _=>([],[])) fs0 fs0_ok) Tryz.kp122 Tryz.func122 rfl ?_
 have hr:r<σ.length:=by obtain⟨s,hg⟩:=hp;exact hget_lt hg
 have pwa:∀l s,pw (σ++l) r s=pw σ r s++l:=fun l s=>by unfold pw hset;rw[List.set_append_left _ _ hr]
 have pota:∀l s,PotAt (pw σ r s++l) r:=fun l s=>by
  obtain⟨u,hg⟩:=hp.pw s
  exact⟨u,by rw[hget_app (hget_lt hg)];exact hg⟩
 have pwa2:∀l s t,pw (pw σ r s++l) r t=pw σ r t++l:=fun l s t=>by
  have:r<(pw σ r s).length:=by unfold pw;rw[length_hset];exact hr
  show hset (pw σ r s++l) r _=_
  unfold hset;rw[List.set_append_left _ _ this]
  show pw (pw σ r s) r t++l=_
  rw[pw_pw]
 have p0:PotAt (σ++[.cells [.int .i64 0,.int .i64 0]]) r:=by obtain⟨u,hg⟩:=hp;exact⟨u,by rw[hget_app hr];exact hg⟩
 have hof:∀(x:Int) (σ:List AObj) (hp:PotAt σ r) (Q:AV→List AObj→Prop),(∀s' y,(y=0∨y=x)→Q (.int .i64 y) (pw σ r s'))→ACalls S 39 [.ptr r 0,.list .full 1 [.int .i64 0,.int .i64 0,.int .i64 x]] σ Q:=fun x σ hp Q hq=>
  of_c r [0,0,x] .full (by simp) σ hp Q fun s' y hy=>hq s' y (by simpa using hy)
 simp -implicitDefEqProofs (maxSteps:=9^9) (disch:=omega) only[go_sem,simprocAttr]
 refine upto_c r wide (by omega) _ p0 _ fun s1 x1 a1 a2=>?_
 rw[pwa]
 simp -implicitDefEqProofs (maxSteps:=9^9) (disch:=omega) only[go_sem,simprocAttr]
 refine hof x1 _ (pota _ _) _ fun s2 y1 a3=>?_
 rw[pwa2]
 have b1:0≤y1∧y1≤wide:=by omega
 simp -implicitDefEqProofs (maxSteps:=9^9) (disch:=omega) only[go_sem,simprocAttr]
 refine upto_c r wide (by omega) _ (pota _ _) _ fun s3 x2 a5 a6=>?_
 rw[pwa2]
 simp -implicitDefEqProofs (maxSteps:=9^9) (disch:=omega) only[go_sem,simprocAttr]
 refine hof x2 _ (pota _ _) _ fun s4 y2 a7=>?_
 rw[pwa2]
 have b2:0≤y2∧y2≤wide:=by omega
 have hlp:(pw σ r s4).length=σ.length:=by unfold pw;exact length_hset
 have g1:hget (pw σ r s4++[.cells [.int .i64 0,.int .i64 0]]) σ.length=some (.cells [.int .i64 0,.int .i64 0]):=by rw[← hlp];exact hget_at0
 have g2:∀o,hset (pw σ r s4++[.cells [.int .i64 0,.int .i64 0]]) σ.length o=pw σ r s4++[o]:=fun o=>by rw[← hlp];exact hset_at0
 have g3:∀o,hget (pw σ r s4++[o]) σ.length=some o:=fun o=>by rw[← hlp];exact hget_at0
 simp -implicitDefEqProofs (maxSteps:=9^9) (disch:=omega) only[go_sem,simprocAttr,g1,g2,g3]
 refine h s4 (if least<n-y1 then n-y1 else least) (if n+y2<most then n+y2 else most) ?_ ?_ ?_ ?_ ?_ ?_ _<;> (split<;> omega)
def truAV(rates by_:List Int):AV:= .agg [ints1 rates,ints1 by_]
theorem off_p(r:Ros)(rates by_:List Int)(h d:Int)(hl:r.sets.length≤1000)(hh:0≤h∧h<rates.length)(hrl:rates.length≤1000)(hd:0≤d∧d≤60)(hr:∀n∈rates, -5≤n∧n≤5):PureV S 69 [r.av,truAV rates by_,.int .i64 h,.int .i64 d] (.int .i64 (offX r rates h d)):=by
 refine PvE (Tryz.envOK (S:=S) 53 (fun _=>([],[])) fs0 fs0_ok) (.int) Tryz.kp69 Tryz.func69 rfl ?_
 intro σ
 obtain⟨hands,skill,mn,mx,sets,ents⟩:=r
 simp only[Ros.av,truAV,ints1] at hl⊢
 simp -implicitDefEqProofs (maxSteps:=9^9) (disch:=omega) only[go_sem,simprocAttr]
 refine ARun.forS (Tryz.envOK (S:=S) 53 (fun _=>([],[])) fs0 fs0_ok) sets.length (fun _=>True) (fun i=>[(9,.int .i64 ((sets.take i).foldl (setF h d) 0)),(10,.int .i64 i)]) (fun _ _=>σ++[.cells [.int .i64 hands,.int .i64 skill,.int .i64 mn,.int .i64 mx,.list .no 2 (sets.map Sg.av),.list .no 6 (ents.map Tn.av)],.cells [.list .no 1 (rates.map (.int .i64)),.list .no 1 (by_.map (.int .i64))]]) [] (by kernel_rfl) rfl (by simp[upd,ins,subF,lookA]) trivial ?_ ?_
 ·intro i j hi _ ih
  rw[take_foldl hi] at ih
  have hidx:idx (sets.map Sg.av) (i:Int)=some (Sg.av sets[i]):=idx_nat hi
  generalize (sets.take i).foldl (setF h d) 0=m at *
  generalize sets[i]=s at hidx ih
  simp only[Sg.av] at hidx
  simp -implicitDefEqProofs (maxSteps:=9^9) (disch:=omega) only[go_sem,simprocAttr,hidx]
  refine⟨fun p1=>⟨fun p2=>?_,fun p2=>?_⟩,fun p1=>?_⟩
  ·exact(ih trivial []).castS rfl (by simp[upd,ins,subF,lookA,setF,p1,p2])
  ·exact(ih trivial []).castS rfl (by simp[upd,ins,subF,lookA,setF,p1,p2])
  ·exact(ih trivial []).castS rfl (by simp[upd,ins,subF,lookA,setF,p1])
 ·intro j _
  rw[List.take_length]
  have hfi:=@fromL_in sets h d hd.1
  have hfe:sets.foldl (setF h d) 0=fromL sets h d:=rfl
  rw[hfe]
  have hrt: -5≤tg rates h∧tg rates h≤5:=by
   have hlt:h.toNat<rates.length:=by omega
   have:tg rates h=rates[h.toNat]:=by simp[tg,List.getD_eq_getElem?_getD,hlt]
   rw[this];exact hr _ (List.getElem_mem hlt)
  have hoo:offX ⟨hands,skill,mn,mx,sets,ents⟩ rates h d=tg rates h*(d-fromL sets h d):=rfl
  rw[hoo]
  have hw1:IntKind.i64.wrap (d-fromL sets h d)=d-fromL sets h d:=wrap64 (by omega) (by omega)
  have hw2:IntKind.i64.wrap (tg rates h*(d-fromL sets h d))=tg rates h*(d-fromL sets h d):=by
   generalize tg rates h=a at hrt
   have h3:0≤d-fromL sets h d∧d-fromL sets h d≤60:=by omega
   generalize d-fromL sets h d=b at h3
   have: -300≤a*b∧a*b≤300:=by
    rcases(by omega:a= -5∨a= -4∨a= -3∨a= -2∨a= -1∨a=0∨a=1∨a=2∨a=3∨a=4∨a=5) with rfl | rfl | rfl | rfl | rfl | rfl | rfl | rfl | rfl | rfl | rfl<;> omega
   exact wrap64 (by omega) (by omega)
  have hidx:idx (rates.map (AV.int .i64)) h=some (.int .i64 (tg rates h)):=idx_tg hh.1 hh.2
  have hmi:=@tget rates h hh.1 hh.2
  simp -implicitDefEqProofs (maxSteps:=9^9) (disch:=omega) only[go_sem,simprocAttr,hw1,hw2,hidx,hmi]
theorem hlength_pw{σ:List AObj}{r:Nat}{s:Int}:(pw σ r s).length=σ.length:=length_hset
theorem hhget_pw0{σ l:List AObj}{r:Nat}{s:Int}:hget (pw σ r s++l) σ.length=l[0]? :=by rw[← hlength_pw (σ:=σ) (r:=r) (s:=s)];exact hget_at0
theorem hhget_pw{σ l:List AObj}{r k:Nat}{s:Int}:hget (pw σ r s++l) (σ.length+k)=l[k]? :=by rw[← hlength_pw (σ:=σ) (r:=r) (s:=s)];exact hget_at
theorem hhset_pw0{σ l:List AObj}{r:Nat}{s:Int}{o:AObj}:hset (pw σ r s++l) σ.length o=pw σ r s++l.set 0 o:=by rw[← hlength_pw (σ:=σ) (r:=r) (s:=s)];exact hset_at0
theorem hhset_pw{σ l:List AObj}{r k:Nat}{s:Int}{o:AObj}:hset (pw σ r s++l) (σ.length+k) o=pw σ r s++l.set k o:=by rw[← hlength_pw (σ:=σ) (r:=r) (s:=s)];exact hset_at
theorem hpw_app{σ l:List AObj}{r:Nat}{s:Int}(hr:r<σ.length):pw (σ++l) r s=pw σ r s++l:=by unfold pw hset;rw[List.set_append_left _ _ hr]
theorem hpw_pwa{σ l:List AObj}{r:Nat}{s t:Int}(hr:r<σ.length):pw (pw σ r s++l) r t=pw σ r t++l:=by
 rw[hpw_app (by rw[hlength_pw];exact hr),pw_pw]
theorem PotAt.app1{σ l:List AObj}{r:Nat}(h:PotAt σ r):PotAt (σ++l) r:=by obtain⟨s,hg⟩:=h;exact⟨s,by rw[hget_app (hget_lt hg)];exact hg⟩
theorem PotAt.lt1{σ:List AObj}{r:Nat}(h:PotAt σ r):r<σ.length:=by obtain⟨s,hg⟩:=h;exact hget_lt hg
structure TrueT(r:Ros)(rates:List Int)(w:Int)(x:Tn)(by_:Int):Prop where
 by_in:0≤by_∧by_<r.hands
 day:0≤x.day∧x.day≤12
 hand:x.hand=by_∨x.hand= -1
 due:500≤x.due∧x.due≤2000
 ear:∃t lo hi rds,(-r.skill≤t- (x.due+offX r rates by_ x.day)∧t- (x.due+offX r rates by_ x.day)≤r.skill)∧(1≤lo∧lo≤t∧t≤hi∧hi≤100000∧hi-lo≤2*w)∧(rds=[]∨rds=[⟨1,0,0,20,⟨t/5,t/5⟩⟩])∧x.ear=⟨0,[⟨lo,hi⟩],rds⟩
theorem tunedOf_c(p:Nat)(r:Ros)(rates by_:List Int)(w:Int)(hw:0≤w∧w≤10)(hh:1≤r.hands∧r.hands≤4)(hs:0≤r.skill∧r.skill≤3)(hrl:(rates.length:Int)=r.hands)(hr:∀n∈rates, -3≤n∧n≤3)(hsl:r.sets.length≤1000)
  (σ:List AObj) (hp:PotAt σ p) (Q:AV→List AObj→Prop) (h:∀s' x b junk,TrueT r rates w x b→Q (.tup [x.av,.int .i64 b]) (pw σ p s'++junk)) :
  ACalls S 64 [.ptr p 0,r.av,truAV rates by_,.int .i64 w] σ Q:=by
 refine ACalls.wkW ?_
 refine AcE (Tryz.envOK (S:=S) 65 Tryz.ord64 fs0 fs0_ok) Tryz.kp64 Tryz.func64 rfl ?_
 have hpl:=hp.lt1
 simp only[Ros.av,truAV,ints1]
 have hwh:IntKind.i64.wrap (r.hands-1)=r.hands-1:=wrap64 (by omega) (by omega)
 simp -implicitDefEqProofs (maxSteps:=9^9) (disch:=omega) only[go_sem,simprocAttr,hwh]
 refine upto_c p (r.hands-1) (by omega) _ hp.app1 _ fun s1 b b1 b2=>?_
 rw[hpw_app hpl]
 have hb:0≤b∧b<r.hands:=by omega
 clear b1 b2
 simp -implicitDefEqProofs (maxSteps:=9^9) (disch:=omega) only[go_sem,simprocAttr,hlength_pw,hhget_pw0,hhget_pw,hhset_pw0,hhset_pw]
 refine upto_c p 12 (by omega) _ (hp.pw _).app1 _ fun s2 dy d1 d2=>?_
 rw[hpw_pwa hpl]
 have hdy:0≤dy∧dy≤12:=by omega
 clear d1 d2
 simp -implicitDefEqProofs (maxSteps:=9^9) (disch:=omega) only[go_sem,simprocAttr,hlength_pw,hhget_pw0,hhget_pw,hhset_pw0,hhset_pw]
 refine within_c p 500 2000 (by omega) (by omega) _ (hp.pw _).app1 _ fun s3 due e1 e2=>?_
 rw[hpw_pwa hpl]
 have hdue:500≤due∧due≤2000:=by omega
 clear e1 e2
 simp -implicitDefEqProofs (maxSteps:=9^9) (disch:=omega) only[go_sem,simprocAttr,hlength_pw,hhget_pw0,hhget_pw,hhset_pw0,hhset_pw]
 have hoff: -36≤offX r rates b dy∧offX r rates b dy≤36:=by
  have h1:=@fromL_in r.sets b dy hdy.1
  have h2: -3≤tg rates b∧tg rates b≤3:=by
   have hlt:b.toNat<rates.length:=by omega
   have:tg rates b=rates[b.toNat]:=by simp[tg,List.getD_eq_getElem?_getD,hlt]
   rw[this];exact hr _ (List.getElem_mem hlt)
  unfold offX
  generalize tg rates b=a at h2
  have h3:0≤dy-fromL r.sets b dy∧dy-fromL r.sets b dy≤12:=by omega
  generalize dy-fromL r.sets b dy=c at h3
  rcases(by omega:a= -3∨a= -2∨a= -1∨a=0∨a=1∨a=2∨a=3) with rfl | rfl | rfl | rfl | rfl | rfl | rfl<;> omega
 refine off_p r rates by_ b dy hsl ⟨hb.1,by omega⟩ (by omega) ⟨by omega,by omega⟩ (fun n hn=>by have:=hr n hn;omega) _ _ ?_
 obtain⟨of,hof⟩:∃of,of=offX r rates b dy:=⟨_,rfl⟩
 rw[← hof] at hoff⊢
 have hwn:IntKind.i64.wrap (0-r.skill)= -r.skill:=by rw[wrap64 (by omega) (by omega)];omega
 simp -implicitDefEqProofs (maxSteps:=9^9) (disch:=omega) only[go_sem,simprocAttr,hlength_pw,hhget_pw0,hhget_pw,hhset_pw0,hhset_pw,hwn]
 refine within_c p (0-r.skill) r.skill (by omega) (by omega) _ (hp.pw _).app1 _ fun s4 er f1 f2=>?_
 rw[hpw_pwa hpl]
 have her: -r.skill≤er∧er≤r.skill:=by omega
 clear f1 f2
 have hwt:IntKind.i64.wrap (due+of+er)=due+of+er:=wrap64 (by omega) (by omega)
 have hwt1:IntKind.i64.wrap (due+of)=due+of:=wrap64 (by omega) (by omega)
 simp -implicitDefEqProofs (maxSteps:=9^9) (disch:=omega) only[go_sem,simprocAttr,hlength_pw,hhget_pw0,hhget_pw,hhset_pw0,hhset_pw,hwt,hwt1]
 refine near_c p (due+of+er) 1 100000 w (by omega) (by omega) _ (hp.pw _).app1 _ fun s5 lo hi c1 c2 c3 c4 c5 c6 junk=>?_
 rw[hpw_pwa hpl,List.append_assoc]
 have hq5:Int.tdiv (due+of+er) 5=(due+of+er)/5:=Int.tdiv_eq_ediv_of_nonneg (by omega)
 have hwq:IntKind.i64.wrap ((due+of+er)/5)=(due+of+er)/5:=wrap64 (by omega) (by omega)
 have hT:∀rds hd,(rds=[]∨rds=[⟨1,0,0,20,⟨(due+of+er)/5,(due+of+er)/5⟩⟩])→(hd=b∨hd= -1)→TrueT r rates w ⟨dy,hd,due,⟨0,[⟨lo,hi⟩],rds⟩⟩ b:=fun rds hd g1 g2=>
  ⟨hb,hdy,g2,hdue,due+of+er,lo,hi,rds,(show -r.skill≤due+of+er- (due+offX r rates b dy)∧due+of+er- (due+offX r rates b dy)≤r.skill by rw[← hof];omega),by omega,g1,rfl⟩
 simp only[Rng.av]
 simp -implicitDefEqProofs (maxSteps:=9^9) (disch:=omega) only[go_sem,simprocAttr,hlength_pw,hhget_pw0,hhget_pw,hhset_pw0,hhset_pw]
 refine odds_c p 1 4 (by omega) (by omega) _ (hp.pw _).app1 _ fun s6 q1=>?_
 rw[hpw_pwa hpl]
 cases q1
 ·simp -implicitDefEqProofs (maxSteps:=9^9) (disch:=omega) only[go_sem,simprocAttr,hlength_pw,hhget_pw0,hhget_pw,hhset_pw0,hhset_pw]
  refine odds_c p 1 2 (by omega) (by omega) _ (hp.pw _).app1 _ fun s7 q2=>?_
  rw[hpw_pwa hpl]
  cases q2
  ·simp -implicitDefEqProofs (maxSteps:=9^9) (disch:=omega) only[go_sem,simprocAttr,hlength_pw,hhget_pw0,hhget_pw,hhset_pw0,hhset_pw]
   exact⟨_,wk_weak (by simp[wk,wkL,wk1,wk0,Tn.av,Tn.cells,Rng.av]),h _ _ _ _ (hT [] b (.inl rfl) (.inl rfl))⟩
  ·simp -implicitDefEqProofs (maxSteps:=9^9) (disch:=omega) only[go_sem,simprocAttr,hlength_pw,hhget_pw0,hhget_pw,hhset_pw0,hhset_pw]
   exact⟨_,wk_weak (by simp[wk,wkL,wk1,wk0,Tn.av,Tn.cells,Rng.av]),h _ _ _ _ (hT [] (-1) (.inl rfl) (.inr rfl))⟩
 ·simp -implicitDefEqProofs (maxSteps:=9^9) (disch:=omega) only[go_sem,simprocAttr,hlength_pw,hhget_pw0,hhget_pw,hhset_pw0,hhset_pw,hq5,hwq]
  refine odds_c p 1 2 (by omega) (by omega) _ (hp.pw _).app1 _ fun s7 q2=>?_
  rw[hpw_pwa hpl]
  cases q2
  ·simp -implicitDefEqProofs (maxSteps:=9^9) (disch:=omega) only[go_sem,simprocAttr,hlength_pw,hhget_pw0,hhget_pw,hhset_pw0,hhset_pw]
   exact⟨_,wk_weak (by simp[wk,wkL,wk1,wk0,Tn.av,Tn.cells,Rng.av,Rd.av]),h _ _ _ _ (hT _ b (.inr rfl) (.inl rfl))⟩
  ·simp -implicitDefEqProofs (maxSteps:=9^9) (disch:=omega) only[go_sem,simprocAttr,hlength_pw,hhget_pw0,hhget_pw,hhset_pw0,hhset_pw]
   exact⟨_,wk_weak (by simp[wk,wkL,wk1,wk0,Tn.av,Tn.cells,Rng.av,Rd.av]),h _ _ _ _ (hT _ (-1) (.inr rfl) (.inr rfl))⟩
theorem TrueT.congr{r r2:Ros}{rates:List Int}{w:Int}{x:Tn}{b:Int}(h:TrueT r rates w x b)(h1:r2.hands=r.hands)(h2:r2.skill=r.skill)(h3:r2.sets=r.sets):TrueT r2 rates w x b:=by
 obtain⟨t,lo,hi,rds,g1,g2,g3,g4⟩:=h.ear
 refine⟨by rw[h1];exact h.by_in,h.day,h.hand,h.due,t,lo,hi,rds,?_,g2,g3,g4⟩
 have:offX r2 rates b x.day=offX r rates b x.day:=by unfold offX;rw[h3]
 rw[this,h2];exact g1
structure TrueR(H E w:Int)(r:Ros)(rates by_:List Int):Prop where
 hands:1≤r.hands∧r.hands≤H
 skill:0≤r.skill∧r.skill≤3
 mn: -3≤r.mn∧r.mn≤1
 mx:1≤r.mx∧r.mx≤3
 rl:(rates.length:Int)=r.hands
 rate:∀n∈rates,n=0∨(r.mn≤n∧n≤r.mx)
 sl:r.sets.length≤2
 set:∀s∈r.sets,(0≤s.hand∧s.hand<r.hands)∧0≤s.day∧s.day≤9
 el:(r.ents.length:Int)≤E
 bl:by_.length=r.ents.length
 ent:∀i (h:i<r.ents.length) (h':i<by_.length),TrueT r rates w r.ents[i] by_[i]
def rosC(h s a b:Int)(ss es:AV):AObj:= .cells [.int .i64 h,.int .i64 s,.int .i64 a,.int .i64 b,ss,es]
theorem rosterOf_c(p:Nat)(H E w:Int)(hH:1≤H∧H≤4)(hE:0≤E∧E≤5)(hw:0≤w∧w≤10)(σ:List AObj)(hp:PotAt σ p)(Q:AV→List AObj→Prop)(h:∀s' r rates by_ junk,TrueR H E w r rates by_→Q (.tup [r.av,truAV rates by_]) (pw σ p s'++junk)) :
  ACalls S 20 [.ptr p 0,.int .i64 H,.int .i64 E,.int .i64 w] σ Q:=by
 refine ACalls.wkW ?_
 refine AcE (Tryz.envOK (S:=S) 106 Tryz.ord20 fs0 fs0_ok) Tryz.kp20 Tryz.func20 rfl ?_
 have hpl:=hp.lt1
 simp -implicitDefEqProofs (maxSteps:=9^9) (disch:=omega) only[go_sem,simprocAttr]
 refine within_c p 1 H (by omega) (by omega) _ hp.app1 _ fun s1 hands b1 b2=>?_
 rw[hpw_app hpl]
 have hhd:1≤hands∧hands≤H:=by omega
 clear b1 b2
 simp -implicitDefEqProofs (maxSteps:=9^9) (disch:=omega) only[go_sem,simprocAttr,hlength_pw,hhget_pw0,hhget_pw,hhset_pw0,hhset_pw]
 refine upto_c p 3 (by omega) _ (hp.pw _).app1 _ fun s2 skill d1 d2=>?_
 rw[hpw_pwa hpl]
 have hsk:0≤skill∧skill≤3:=by omega
 clear d1 d2
 simp -implicitDefEqProofs (maxSteps:=9^9) (disch:=omega) only[go_sem,simprocAttr,hlength_pw,hhget_pw0,hhget_pw,hhset_pw0,hhset_pw]
 refine within_c p (-3) 1 (by omega) (by omega) _ (hp.pw _).app1 _ fun s3 mn e1 e2=>?_
 rw[hpw_pwa hpl]
 have hmn: -3≤mn∧mn≤1:=by omega
 clear e1 e2
 simp -implicitDefEqProofs (maxSteps:=9^9) (disch:=omega) only[go_sem,simprocAttr,hlength_pw,hhget_pw0,hhget_pw,hhset_pw0,hhset_pw]
 refine within_c p 1 3 (by omega) (by omega) _ (hp.pw _).app1 _ fun s4 mx f1 f2=>?_
 rw[hpw_pwa hpl]
 have hmx:1≤mx∧mx≤3:=by omega
 clear f1 f2
 simp -implicitDefEqProofs (maxSteps:=9^9) (disch:=omega) only[go_sem,simprocAttr,hlength_pw,hhget_pw0,hhget_pw,hhset_pw0,hhset_pw]
 refine ARun.ghostK (σ.length+3) 0 1 (by rw[hhget_pw];rfl) rfl ?_
 simp only[hhset_pw,List.set_cons_succ,List.set_cons_zero,List.append_assoc,List.cons_append,List.nil_append,List.length_append,List.length_cons,List.length_nil,Nat.zero_add,Nat.reduceAdd,hlength_pw]
 refine ARun.loopJ (Tryz.envOK (S:=S) 106 Tryz.ord20 fs0 fs0_ok) (α:=List Int) (fun L=>hands.toNat-L.length)
  (fun L τ=>(∃s,τ=pw σ p s++[rosC 0 0 0 0 (.list .full 0 []) (.list .full 0 []),.cells [.list .full 0 [],.list .full 0 []],rosC hands skill mn mx (.list .full 0 []) (.list .full 0 []),.cells [.list (.own (σ.length+4)) 1 (L.map (.int .i64)),.list .full 0 []],.tail L.length 1])∧(L.length:Int)≤hands∧∀n∈L,n=0∨(mn≤n∧n≤mx))
  (fun L=>[(12,.int .i64 (L.length:Int))]) [] (by kernel_rfl) (by simp[upd,ins,subF,lookA]) ⟨⟨s4,by simp[rosC]⟩,by simp;omega,by simp⟩ ?_
 rintro L τ ⟨⟨s5,rfl⟩,hL1,hL2⟩ ih
 simp only[rosC] at ih⊢
 by_cases hlt:(L.length:Int)<hands
 ·have hlt':((L.length:Int)<hands)=True:=eq_true hlt
  have hwl:IntKind.i64.wrap ((L.length:Int)+1)=(L.length:Int)+1:=wrap64 (by omega) (by omega)
  simp -implicitDefEqProofs (maxSteps:=9^9) (disch:=omega) only[go_sem,simprocAttr,hlength_pw,hhget_pw0,hhget_pw,hhset_pw0,hhset_pw,hlt']
  refine odds_c p 1 3 (by omega) (by omega) _ (hp.pw _).app1 _ fun s6 q1=>?_
  rw[hpw_pwa hpl]
  cases q1
  ·simp -implicitDefEqProofs (maxSteps:=9^9) (disch:=omega) only[go_sem,simprocAttr,hlength_pw,hhget_pw0,hhget_pw,hhset_pw0,hhset_pw,hwl]
   refine(ih (L++[0]) _ (by rw[List.length_append,List.length_singleton];omega) ⟨⟨s6,rfl⟩,by rw[List.length_append,List.length_singleton];omega,fun n hn=>?_⟩).castS (by simp) (by simp[upd,ins,subF,lookA])
   rcases List.mem_append.1 hn with hn | hn
   ·exact hL2 n hn
   ·simp at hn;exact .inl hn
  ·simp -implicitDefEqProofs (maxSteps:=9^9) (disch:=omega) only[go_sem,simprocAttr,hlength_pw,hhget_pw0,hhget_pw,hhset_pw0,hhset_pw,hwl]
   refine within_c p mn mx (by omega) (by omega) _ (hp.pw _).app1 _ fun s7 n n1 n2=>?_
   rw[hpw_pwa hpl]
   simp -implicitDefEqProofs (maxSteps:=9^9) (disch:=omega) only[go_sem,simprocAttr,hlength_pw,hhget_pw0,hhget_pw,hhset_pw0,hhset_pw,hwl]
   refine(ih (L++[n]) _ (by rw[List.length_append,List.length_singleton];omega) ⟨⟨s7,rfl⟩,by rw[List.length_append,List.length_singleton];omega,fun m hm=>?_⟩).castS (by simp) (by simp[upd,ins,subF,lookA])
   rcases List.mem_append.1 hm with hm | hm
   ·exact hL2 m hm
   ·simp at hm;subst hm;exact .inr (by omega)
 ·have hlt':((L.length:Int)<hands)=False:=eq_false hlt
  have hLl:(L.length:Int)=hands:=by omega
  clear ih hlt
  simp -implicitDefEqProofs (maxSteps:=9^9) (disch:=omega) only[go_sem,simprocAttr,hlength_pw,hhget_pw0,hhget_pw,hhset_pw0,hhset_pw,hlt']
  clear hlt'
  refine upto_c p 2 (by omega) _ (hp.pw _).app1 _ fun s6 m m1 m2=>?_
  rw[hpw_pwa hpl]
  have hm:0≤m∧m≤2:=by omega
  clear m1 m2
  simp -implicitDefEqProofs (maxSteps:=9^9) (disch:=omega) only[go_sem,simprocAttr,hlength_pw,hhget_pw0,hhget_pw,hhset_pw0,hhset_pw]
  refine ARun.ghostK (σ.length+2) 4 2 (by rw[hhget_pw];rfl) rfl ?_
  simp only[hhset_pw,List.set_cons_succ,List.set_cons_zero,List.append_assoc,List.cons_append,List.nil_append,List.length_append,List.length_cons,List.length_nil,Nat.zero_add,Nat.reduceAdd,hlength_pw]
  refine ARun.loopJ (Tryz.envOK (S:=S) 106 Tryz.ord20 fs0 fs0_ok) (α:=List Sg) (fun Z=>m.toNat-Z.length)
   (fun Z τ=>(∃s,τ=pw σ p s++[rosC 0 0 0 0 (.list .full 0 []) (.list .full 0 []),.cells [.list .full 0 [],.list .full 0 []],rosC hands skill mn mx (.list (.own (σ.length+5)) 2 (Z.map Sg.av)) (.list .full 0 []),.cells [.list (.own (σ.length+4)) 1 (L.map (.int .i64)),.list .full 0 []],.tail L.length 1,.tail Z.length 2])∧(Z.length:Int)≤m∧∀s∈Z,(0≤s.hand∧s.hand<hands)∧0≤s.day∧s.day≤9)
   (fun Z=>[(14,.int .i64 (m- (Z.length:Int)))]) [] (by kernel_rfl) (by simp[upd,ins,subF,lookA]) ⟨⟨s6,by simp[rosC]⟩,by simp;omega,by simp⟩ ?_
  rintro Z τ ⟨⟨s7,rfl⟩,hZ1,hZ2⟩ ih
  simp only[rosC] at ih⊢
  have hwh:IntKind.i64.wrap (hands-1)=hands-1:=wrap64 (by omega) (by omega)
  by_cases hlt:0<m- (Z.length:Int)
  ·have hlt':(0<m- (Z.length:Int))=True:=eq_true hlt
   have hwm:IntKind.i64.wrap (m- (Z.length:Int)-1)=m- (Z.length:Int)-1:=wrap64 (by omega) (by omega)
   simp -implicitDefEqProofs (maxSteps:=9^9) (disch:=omega) only[go_sem,simprocAttr,hlength_pw,hhget_pw0,hhget_pw,hhset_pw0,hhset_pw,hlt',hwh]
   refine upto_c p (hands-1) (by omega) _ (hp.pw _).app1 _ fun s8 x x1 x2=>?_
   rw[hpw_pwa hpl]
   have hx:0≤x∧x<hands:=by omega
   clear x1 x2
   simp -implicitDefEqProofs (maxSteps:=9^9) (disch:=omega) only[go_sem,simprocAttr,hlength_pw,hhget_pw0,hhget_pw,hhset_pw0,hhset_pw,hlt',hwh]
   refine upto_c p 9 (by omega) _ (hp.pw _).app1 _ fun s9 y y1 y2=>?_
   rw[hpw_pwa hpl]
   have hy:0≤y∧y≤9:=by omega
   clear y1 y2
   simp -implicitDefEqProofs (maxSteps:=9^9) (disch:=omega) only[go_sem,simprocAttr,hlength_pw,hhget_pw0,hhget_pw,hhset_pw0,hhset_pw,hlt',hwh,hwm]
   refine(ih (Z++[⟨x,y⟩]) _ (by rw[List.length_append,List.length_singleton];omega) ⟨⟨s9,rfl⟩,by rw[List.length_append,List.length_singleton];omega,fun z hz=>?_⟩).castS (by simp[Sg.av]) (by simp[upd,ins,subF,lookA];omega)
   rcases List.mem_append.1 hz with hz | hz
   ·exact hZ2 z hz
   ·simp at hz;subst hz;exact⟨hx,hy⟩
  ·have hlt':(0<m- (Z.length:Int))=False:=eq_false hlt
   have hZl:Z.length≤2:=by omega
   clear ih hlt
   simp -implicitDefEqProofs (maxSteps:=9^9) (disch:=omega) only[go_sem,simprocAttr,hlength_pw,hhget_pw0,hhget_pw,hhset_pw0,hhset_pw,hlt']
   clear hlt' hZ1
   refine upto_c p E (by omega) _ (hp.pw _).app1 _ fun s8 n n1 n2=>?_
   rw[hpw_pwa hpl]
   have hn:0≤n∧n≤E:=by omega
   clear n1 n2
   simp -implicitDefEqProofs (maxSteps:=9^9) (disch:=omega) only[go_sem,simprocAttr,hlength_pw,hhget_pw0,hhget_pw,hhset_pw0,hhset_pw]
   refine ARun.ghostK (σ.length+2) 5 6 (by rw[hhget_pw];rfl) rfl ?_
   simp only[hhset_pw,List.set_cons_succ,List.set_cons_zero,List.append_assoc,List.cons_append,List.nil_append,List.length_append,List.length_cons,List.length_nil,Nat.zero_add,Nat.reduceAdd,hlength_pw]
   refine ARun.ghostK (σ.length+3) 1 1 (by rw[hhget_pw];rfl) rfl ?_
   simp only[hhset_pw,List.set_cons_succ,List.set_cons_zero,List.append_assoc,List.cons_append,List.nil_append,List.length_append,List.length_cons,List.length_nil,Nat.zero_add,Nat.reduceAdd,hlength_pw]
   refine ARun.loopJ (Tryz.envOK (S:=S) 106 Tryz.ord20 fs0 fs0_ok) (α:=List Tn×List Int) (fun a=>n.toNat-a.1.length)
    (fun a τ=>(∃s j,τ=pw σ p s++(rosC 0 0 0 0 (.list .full 0 []) (.list .full 0 []):: .cells [.list .full 0 [],.list .full 0 []]::rosC hands skill mn mx (.list (.own (σ.length+5)) 2 (Z.map Sg.av)) (.list (.own (σ.length+6)) 6 (a.1.map Tn.av)):: .cells [.list (.own (σ.length+4)) 1 (L.map (.int .i64)),.list (.own (σ.length+7)) 1 (a.2.map (.int .i64))]:: .tail L.length 1:: .tail Z.length 2:: .tail a.1.length 6:: .tail a.2.length 1::j))∧(a.1.length:Int)≤n∧a.2.length=a.1.length∧∀i (h:i<a.1.length) (h':i<a.2.length),TrueT ⟨hands,skill,mn,mx,Z,[]⟩ L w a.1[i] a.2[i])
    (fun a=>[(15,.int .i64 (n- (a.1.length:Int)))]) ([],[]) (by kernel_rfl) (by simp[upd,ins,subF,lookA]) ⟨⟨s8,[],by simp[rosC]⟩,by simp;omega,rfl,by simp⟩ ?_
   rintro⟨X,B⟩ τ ⟨⟨s9,j,rfl⟩,hX1,hX2,hX3⟩ ih
   simp only[rosC] at ih hX1 hX2 hX3⊢
   by_cases hlt:0<n- (X.length:Int)
   ·have hlt':(0<n- (X.length:Int))=True:=eq_true hlt
    have hwm:IntKind.i64.wrap (n- (X.length:Int)-1)=n- (X.length:Int)-1:=wrap64 (by omega) (by omega)
    simp -implicitDefEqProofs (maxSteps:=9^9) (disch:=omega) only[go_sem,simprocAttr,hlength_pw,hhget_pw0,hhget_pw,hhset_pw0,hhset_pw,hlt']
    refine ACalls.weaken (l':=[.ptr p 0,(⟨hands,skill,mn,mx,Z,X⟩: Ros).av,truAV L B,.int .i64 w]) ⟨rfl,⟨rfl,rfl,rfl,rfl,⟨rfl,.inl rfl,.inl rfl⟩,⟨rfl,.inl rfl,.inl rfl⟩,trivial⟩,⟨⟨rfl,.inl rfl,.inl rfl⟩,⟨rfl,.inl rfl,.inl rfl⟩,trivial⟩,rfl,trivial⟩ ?_
    refine tunedOf_c p ⟨hands,skill,mn,mx,Z,X⟩ L B w hw (by simp only;omega) (by simp only;omega) (by simp only;omega) (fun z hz=>by have:=hL2 z hz;omega) (by simp only;omega) _ (hp.pw _).app1 _ fun s10 x b junk hT=>?_
    rw[hpw_pwa hpl,List.append_assoc]
    have hxav:x.av= .agg x.cells:=rfl
    simp only[hxav,Tn.cells]
    simp -implicitDefEqProofs (maxSteps:=9^9) (disch:=omega) only[go_sem,simprocAttr,hlength_pw,hhget_pw0,hhget_pw,hhset_pw0,hhset_pw,hX2,hwm]
    refine(ih (X++[x],B++[b]) _ (by simp only[List.length_append,List.length_singleton];omega) ⟨⟨s10,j++junk++[.cells x.cells],rfl⟩,by simp only[List.length_append,List.length_singleton];omega,by simp[hX2],fun i g1 g2=>?_⟩).castS (by simp[hX2,hxav,Tn.cells]) (by simp[upd,ins,subF,lookA];omega)
    simp only at g1 g2⊢
    rw[List.length_append,List.length_singleton] at g1 g2
    rw[List.getElem_append,List.getElem_append]
    split<;> split
    ·exact hX3 i (by assumption) (by assumption)
    ·omega
    ·omega
    ·simp only[List.getElem_singleton]
     exact hT.congr rfl rfl rfl
   ·have hlt':(0<n- (X.length:Int))=False:=eq_false hlt
    simp -implicitDefEqProofs (maxSteps:=9^9) (disch:=omega) only[go_sem,simprocAttr,hlength_pw,hhget_pw0,hhget_pw,hhset_pw0,hhset_pw,hlt']
    have hT:TrueR H E w ⟨hands,skill,mn,mx,Z,X⟩ L B:=⟨hhd,hsk,hmn,hmx,hLl,hL2,hZl,hZ2,(show(X.length:Int)≤E by omega),hX2,fun i g1 g2=>(hX3 i g1 g2).congr rfl rfl rfl⟩
    exact⟨_,wk_weak (by simp[wk,wkL,wk1,wk0,Ros.av,truAV,ints1]),h _ _ _ _ _ hT⟩
def Ros.avv(r:Ros)(a n:Nat):AV:= .agg [.int .i64 r.hands,.int .i64 r.skill,.int .i64 r.mn,.int .i64 r.mx,.list .no 2 (r.sets.map Sg.av),.vec a n]
end Go.Proofs
namespace Go.Proofs
open Go Go.Mu Go.Ins
theorem hfirstE_of{α:Type}{f:α→Int}:∀{l:List α},(∀x∈l,f x=0)→firstE f l=0
 | [],_=>rfl
 | x::l,h=>by
  show(if f x=0 then firstE f l else f x)=0
  rw[if_pos (h x (by simp))]
  exact hfirstE_of fun y hy=>h y (by simp[hy])
theorem truthsL_one(sl lo hi:Int)(rds:List Rd):truthsL ⟨sl,[⟨lo,hi⟩],rds⟩=(List.range (hi-lo+1).toNat).flatMap fun(k:Nat)=>allT ⟨sl,[⟨lo,hi⟩],rds⟩ 0 (setI [0,0,0] ((0:Nat):Int) (lo+k)) 1:=rfl
theorem TrueR.by_at{H E w:Int}{r:Ros}{rates by_:List Int}(h:TrueR H E w r rates by_){x:Tn}(hx:x∈r.ents):∃b,TrueT r rates w x b:=by
 obtain⟨i,hi,rfl⟩:=List.mem_iff_getElem.1 hx
 exact⟨_,h.ent i hi (by rw[h.bl];exact hi)⟩
def padR(rates:List Int):List Int:=rates++List.replicate (4-rates.length) 0
theorem padR_tg(rates:List Int)(i:Int):tg (padR rates) i=tg rates i:=by
 unfold tg padR
 simp only[List.getD,List.getElem?_append,List.getElem?_replicate]
 split
 ·rfl
 ·rename_i h
  rw[List.getElem?_eq_none (by omega)]
  split<;> rfl
def Tryz.ordSt:Nat→List Nat×List (Nat×List Nat)
 | 6=>([0,1,3,7,15,31,63,127,255,511,1023,2047,4095,8191,16383,32767,65535,131071,262143,524287,1048575,2097151,4194303,8388607,8388607,33554431,67108863,134217727,268435455,268435455,268435455,1879048191,4294967295,8589934591,17179869183,34359738367,34359738367,137438953471,274877906943,549755813887,1099511627775,1099511627775,4398046511103,8796093022207,17592186044415],[(0,[]),(1,[]),(2,[]),(3,[]),(4,[]),(5,[]),(6,[]),(7,[]),(8,[]),(9,[]),(10,[]),(11,[]),(12,[]),(13,[]),(14,[]),(15,[]),(16,[]),(17,[]),(18,[]),(19,[]),(20,[]),(21,[]),(22,[]),(23,[]),(24,[24]),(25,[]),(26,[]),(27,[]),(28,[]),(29,[]),(30,[]),(31,[]),(32,[]),(33,[]),(34,[]),(35,[]),(36,[]),(37,[37]),(38,[]),(39,[]),(40,[]),(41,[]),(42,[42]),(43,[]),(44,[])])
 | _=>([],[])
theorem Tryz.ordSt_6:Tryz.ordSt 6=([0,1,3,7,15,31,63,127,255,511,1023,2047,4095,8191,16383,32767,65535,131071,262143,524287,1048575,2097151,4194303,8388607,8388607,33554431,67108863,134217727,268435455,268435455,268435455,1879048191,4294967295,8589934591,17179869183,34359738367,34359738367,137438953471,274877906943,549755813887,1099511627775,1099511627775,4398046511103,8796093022207,17592186044415],[(0,[]),(1,[]),(2,[]),(3,[]),(4,[]),(5,[]),(6,[]),(7,[]),(8,[]),(9,[]),(10,[]),(11,[]),(12,[]),(13,[]),(14,[]),(15,[]),(16,[]),(17,[]),(18,[]),(19,[]),(20,[]),(21,[]),(22,[]),(23,[]),(24,[24]),(25,[]),(26,[]),(27,[]),(28,[]),(29,[]),(30,[]),(31,[]),(32,[]),(33,[]),(34,[]),(35,[]),(36,[]),(37,[37]),(38,[]),(39,[]),(40,[]),(41,[]),(42,[42]),(43,[]),(44,[])]):=rfl
attribute [go_sem] Tryz.ordSt_6
theorem shop_fit:shopR.Fit:=⟨by decide,by decide,by decide +kernel⟩
theorem lone_fit:loneR.Fit:=⟨by decide,by decide,by decide +kernel⟩
theorem steady_p:PureV SBes 26 [] (.bool true):=by
 refine PvE (Tryz.envOK (S:=SBes) 80 Tryz.ordSt fs408 fs408_ok) (.bool) Tryz.kp26 Tryz.func26 rfl ?_
 intro σ
 simp -implicitDefEqProofs (maxSteps:=9^9) (disch:=omega) only[go_sem,simprocAttr]
 refine lone_p _ _ ?_
 simp -implicitDefEqProofs (maxSteps:=9^9) (disch:=omega) only[go_sem,simprocAttr]
 refine fewest_p loneR lone_fit _ _ ?_
 rw[lone_few,lone_k rfl]
 simp -implicitDefEqProofs (maxSteps:=9^9) (disch:=omega) only[go_sem,simprocAttr]
 refine shop_p _ _ ?_
 simp -implicitDefEqProofs (maxSteps:=9^9) (disch:=omega) only[go_sem,simprocAttr]
 refine convicts_p shopR shop_fit _ _ ?_
 rw[shop_conv,shop_k rfl]
 simp -implicitDefEqProofs (maxSteps:=9^9) (disch:=omega) only[go_sem,simprocAttr]
 refine shop_p _ _ ?_
 simp -implicitDefEqProofs (maxSteps:=9^9) (disch:=omega) only[go_sem,simprocAttr]
 refine ratesS_p shopR shop_fit 0 shop_rE (by rw[shop_rof];decide) (by rw[shop_rof];decide) _ _ ?_
 rw[shop_rL]
 simp -implicitDefEqProofs (maxSteps:=9^9) (disch:=omega) only[go_sem,simprocAttr]
 refine shop_p _ _ ?_
 simp -implicitDefEqProofs (maxSteps:=9^9) (disch:=omega) only[go_sem,simprocAttr]
 refine test_p shopR shop_fit 0 10 44000 _ _ ?_
 rw[shop_tE,shop_tL]
 simp -implicitDefEqProofs (maxSteps:=9^9) (disch:=omega) only[go_sem,simprocAttr]
 refine shop_p _ _ ?_
 simp -implicitDefEqProofs (maxSteps:=9^9) (disch:=omega) only[go_sem,simprocAttr]
 refine trusted_p shopR shop_fit 0 5 (by decide) _ _ ?_
 rw[shop_uE,shop_uL]
 simp -implicitDefEqProofs (maxSteps:=9^9) (disch:=omega) only[go_sem,simprocAttr,Rng.av,ints1]
 refine ACalls.weaken (l':=[.list .no 1 ([[0],[1]].map ints1),.list .no 1 ([[0],[1]].map ints1)]) ⟨⟨rfl,.inl rfl,.inl rfl⟩,⟨rfl,.inl rfl,.inl rfl⟩,trivial⟩ (hsameLists_p [[0],[1]] [[0],[1]] (by decide) (by decide) (by decide) (by decide) _ _ ?_)
 rw[decide_eq_true rfl]
 simp -implicitDefEqProofs (maxSteps:=9^9) (disch:=omega) only[go_sem,simprocAttr,Rng.av,ints1]
theorem TrueR.fit{H E w:Int}{r:Ros}{rates by_:List Int}(h:TrueR H E w r rates by_)(hE:E≤5):r.Fit:=by
 have h1:=h.sl
 have h2:=h.el
 refine⟨by omega,by omega,fun x hx=>?_⟩
 obtain⟨b,hb⟩:=h.by_at hx
 obtain⟨t,lo,hi,rds,_,_,g3,g4⟩:=hb.ear
 rw[g4]
 rcases g3 with rfl | rfl<;> simp
end Go.Proofs
namespace Go.Proofs
open Go Go.Mu Go.Ins
variable {S:MC Tryz.prog}
attribute [go_sem] tRngs_dec
theorem hcopyEar_p(e:Ear)(h1:e.tones.length≤4294967296)(h2:e.rds.length≤4294967296):PureV S 92 [e.av] e.av:=by
 refine PvE (Tryz.envOK (S:=S) 13 Tryz.ord92 fs14 fs14_ok) (Ear.plain _) Tryz.kp92 Tryz.func92 rfl ?_
 intro σ
 simp only[Ear.av]
 simp -implicitDefEqProofs (maxSteps:=9^9) (disch:=omega) only[go_sem,simprocAttr]
theorem copyRoster_c(r:Ros)(hs:r.sets.length≤1000)(hn:r.ents.length≤1000)(he:∀x∈r.ents,x.ear.tones.length≤1000000∧x.ear.rds.length≤1000000)(σ:List AObj)(Q:AV→List AObj→Prop)(h:∀a b c j,Q (r.avv (σ.length+3) r.ents.length) (σ++(a::b::c:: .vec 6 (r.ents.map Tn.av)::j))) :
  ACalls S 30 [r.av] σ Q:=by
 refine ACalls.wkW ?_
 refine AcE (Tryz.envOK (S:=S) 35 (fun _=>([],[])) fs0 fs0_ok) Tryz.kp30 Tryz.func30 rfl ?_
 simp only[Ros.av]
 simp -implicitDefEqProofs (maxSteps:=9^9) (disch:=omega) only[go_sem,simprocAttr]
 refine ARun.ghostVK σ.length 5 6 (by rw[hget_at0];rfl) rfl ?_
 simp only[hset_at0,List.set_cons_succ,List.set_cons_zero,List.append_assoc,List.cons_append,List.nil_append,List.length_append,List.length_cons,List.length_nil,Nat.zero_add,Nat.reduceAdd]
 refine ARun.forS (Tryz.envOK (S:=S) 35 (fun _=>([],[])) fs0 fs0_ok) r.ents.length (fun _=>True) (fun i=>[(4,.int .i64 i)]) (fun i j=>σ++(.cells [.int .i64 r.hands,.int .i64 r.skill,.int .i64 r.mn,.int .i64 r.mx,.list (.own (σ.length+2)) 2 (r.sets.map Sg.av),.vec (σ.length+3) i]:: .cells [.int .i64 0,.int .i64 0,.int .i64 0,.int .i64 0,.list .full 0 [],.list .full 0 []]:: .tail r.sets.length 2:: .vec 6 ((r.ents.take i).map Tn.av)::j)) [] (by kernel_rfl) (by simp) (by simp[upd,ins,subF,lookA]) trivial ?_ ?_
 ·intro i j hi _ ih
  have hidx:idx (r.ents.map Tn.av) (i:Int)=some (Tn.av r.ents[i]):=idx_nat hi
  have hte:=he _ (List.getElem_mem hi)
  have htl:(r.ents.take i).length=i:=by rw[List.length_take];omega
  have hwi:IntKind.i64.wrap ((i:Int)+1)=((i+1:Nat):Int):=by rw[wrap64 (by omega) (by omega)];rfl
  rw[List.take_succ_eq_append_getElem hi,List.map_append] at ih
  generalize r.ents[i]=t at *
  have hav:t.av= .agg [.int .i64 t.day,.int .i64 t.hand,.int .i64 t.due,.int .i64 t.ear.slack,.list .no 2 (t.ear.tones.map Rng.av),.list .no 6 (t.ear.rds.map Rd.av)]:=rfl
  simp only[List.map_cons,List.map_nil] at ih
  rw[hav] at hidx ih
  have hcp:=hcopyEar_p (S:=S) t.ear (by omega) (by omega)
  simp only[Ear.av] at hcp
  simp -implicitDefEqProofs (maxSteps:=9^9) (disch:=omega) only[go_sem,simprocAttr,hidx]
  refine hcp _ _ ?_
  simp -implicitDefEqProofs (maxSteps:=9^9) (disch:=omega) only[go_sem,simprocAttr,hidx,hwi,htl]
  exact(ih trivial (j++[AObj.cells [.int .i64 t.day,.int .i64 t.hand,.int .i64 t.due,.int .i64 t.ear.slack,.list .no 2 (t.ear.tones.map Rng.av),.list .no 6 (t.ear.rds.map Rd.av)]])).castS (by simp) (by simp[upd,ins,subF,lookA])
 ·intro j _
  rw[List.take_length]
  simp -implicitDefEqProofs (maxSteps:=9^9) (disch:=omega) only[go_sem,simprocAttr]
  exact⟨_,wk_weak (by simp[wk,wkL,wk1,wk0,Ros.avv]),h _ _ _ _⟩
theorem _root_.Go.Mu.ACalls.frozeG{P:Program}{S:MC P}{f:FuncId}{args:List AV}{σ:List AObj}{Q:AV→List AObj→Prop}
  (h:ACalls S f args σ fun v σ'=>∃vs k r sz xs,v= .agg vs∧vs[k]? = some (.vec r xs.length)∧hget σ' r=some (.vec sz xs)∧Q (.agg (vs.set k (.list .no sz xs))) (hset σ' r .dead)):ACalls S f args σ Q:=by
 refine⟨h.1,fun M hM K w V cargs kd cs hR hO hV=>M.bind (h.2 M hM K w V cargs kd cs hR hO hV) ?_⟩
 rintro g' w' V' ⟨fr,v,σ',K',e1,e2,e3,hl,⟨vs,k,r,sz,xs,rfl,hk,hg,hq⟩,hR',hO',hS⟩
 obtain⟨K2,r1,r2,hv2⟩:=hR'.freeze hg
 refine M.ret ⟨fr,_,_,K2,e1,e2,e3,hl.mono fun c hv=>?_,hq,r1,hO'.mind hR' r1 r2,hS.trans (.of_mind r2)⟩
 rw[hsl_dead]
 cases hv with
 | agg _ cs' hl h1 hh=>
  obtain⟨hkl,hke⟩:=List.getElem?_eq_some_iff.1 hk
  refine .agg _ cs' (by simpa using hl) h1 fun i h1 h2=>?_
  by_cases e:k=i
  ·subst e
   rw[List.getElem_set_self]
   have:=hh k hkl h2
   rw[hke] at this
   exact hv2 _ this
  ·rw[List.getElem_set_ne e]
   exact(hh i (by simpa using h1) h2).mono r2.ext (Nat.le_refl _)
end Go.Proofs
namespace Go.Proofs
open Go Go.Mu Go.Ins
def setN(l:List Int):Nat:=l.foldl (fun s h=>s|||2^h.toNat) 0
end Go.Proofs
namespace Go.Proofs
open Go Go.Mu
variable {S:MC Tryz.prog}
def hcomb(n:Nat):Nat→Nat→List (List Int)
 | 0,_=>[[]]
 | m+1,a=>(List.range (n-a)).flatMap fun k=>(hcomb n m (a+k+1)).map fun l=>((a+k:Nat):Int)::l
def hcombK(n m a k:Nat):List (List Int):=(hcomb n m (a+k+1)).map fun l=>((a+k:Nat):Int)::l
theorem hcomb_succ{n m a:Nat}:hcomb n (m+1) a=(List.range (n-a)).flatMap (hcombK n m a):=rfl
theorem hcomb_mem{n:Nat}:∀{m a:Nat} {l:List Int},l∈hcomb n m a→l.length=m∧(∀x∈l,(a:Int)≤x∧x<n)∧l.Pairwise (· < ·)
 | 0,a,l,h=>by simp[hcomb] at h;subst h;simp
 | m+1,a,l,h=>by
  obtain⟨k,hk,h2⟩:=List.mem_flatMap.1 h
  obtain⟨u,hu,rfl⟩:=List.mem_map.1 h2
  obtain⟨h3,h4,h5⟩:=hcomb_mem hu
  have hk':=List.mem_range.1 hk
  refine⟨by simp[h3],fun x hx=>?_,?_⟩
  ·rcases List.mem_cons.1 hx with rfl | hx
   ·omega
   ·have:=h4 x hx;omega
  ·rw[List.pairwise_cons]
   exact⟨fun y hy=>by have:=h4 y hy;omega,h5⟩
theorem hcomb_len{n:Nat}:∀{m a:Nat},(hcomb n m a).length≤(n+1)^m
 | 0,a=>by simp[hcomb]
 | m+1,a=>by
  simp only[hcomb]
  refine Nat.le_trans (fmLen (B:=(n+1)^m) (fun k=>by rw[List.length_map];exact hcomb_len) _) ?_
  rw[Nat.pow_succ,Nat.mul_comm ((n+1)^m)]
  exact Nat.mul_le_mul_right _ (by omega)
theorem hcomb_len4{n m a:Nat}(hn:n≤4)(hm:m≤4):(hcomb n m a).length≤625:=by
 refine Nat.le_trans hcomb_len (Nat.le_trans (Nat.pow_le_pow_left (show n+1≤5 by omega) m) (Nat.le_trans (Nat.pow_le_pow_right (by omega) hm) (by decide)))
def htss(L:List (List Int)):AV:= .list .no 1 (L.map ints1)
theorem htss_plain(L:List (List Int)):Plain (htss L):= .map fun x _=>Plain.cells_list (ints1_good x).2
end Go.Proofs
namespace Go.Proofs
open Go Go.Mu Go.Ins
theorem comb_set1:∀n<5,∀m<5,∀x∈hcomb n m 0,setN x<2^n∧popF (setN x)=m∧listN (setN x)=x:=by decide +kernel
theorem comb_set2:∀n<5,∀s<2^n,listN s∈hcomb n (popF s) 0∧setN (listN s)=s:=by decide +kernel
theorem comb_set:∀n<5,∀m<5,(∀x∈hcomb n m 0,setN x<2^n∧popF (setN x)=m∧listN (setN x)=x)∧(∀s<2^n,popF s=m→listN s∈hcomb n m 0∧setN (listN s)=s):=fun n hn m hm=>
 ⟨comb_set1 n hn m hm,fun s hs e=>by have:=comb_set2 n hn s hs;rw[e] at this;exact this⟩
theorem comb_ord:∀n<5,∀m<5,(hcomb n m 0).Nodup∧(hcomb n m 0).Pairwise (fun a b=>cmpL a b≤0):=by decide +kernel
theorem list_set:∀s<16,setN (listN s)=s:=by decide +kernel
def hdue(r:Ros)(m:Nat):List (List Int):=(hcomb r.hands.toNat m 0).filter fun l=>decide (htruthsR r (entsL r) (setN l)≠[])
theorem found_due{r:Ros}(hr:r.Head){m:Nat}(hm:m≤r.hands.toNat):foundR r (entsL r) m=[]↔hdue r m=[]:=by
 have hh:=hr.hands
 obtain⟨c1,c2⟩:=comb_set r.hands.toNat (by omega) m (by omega)
 have hp:(2:Nat)^r.hands.toNat≤2^4:=Nat.pow_le_pow_right (by omega) (by omega)
 constructor
 ·intro h
  unfold hdue
  rw[List.filter_eq_nil_iff]
  intro x hx hd
  obtain⟨g1,g2,_⟩:=c1 x hx
  obtain⟨u,hu⟩:=List.exists_mem_of_ne_nil _ (of_decide_eq_true hd)
  have:=(foundR_mem hr (m:=m)).2 ⟨setN x,g1,by rw[← popF_eq _ (by omega)];exact g2,hu⟩
  rw[h] at this;simp at this
 ·intro h
  refine List.eq_nil_iff_forall_not_mem.2 fun u hu=>?_
  obtain⟨s,g1,g2,g3⟩:=(foundR_mem hr).1 hu
  obtain⟨k1,k2⟩:=c2 s g1 (by rw[popF_eq _ (by omega)];exact g2)
  have:listN s∈hdue r m:=List.mem_filter.2 ⟨k1,decide_eq_true (by rw[k2];exact List.ne_nil_of_mem g3)⟩
  rw[h] at this;simp at this
theorem sets_due{r:Ros}(hr:r.Head){m:Nat}(hm:m≤r.hands.toNat)(he:explR r (entsL r)=(foundR r (entsL r) m).foldl addX []):setsL (explR r (entsL r))=hdue r m:=by
 have hh:=hr.hands
 obtain⟨c1,c2⟩:=comb_set r.hands.toNat (by omega) m (by omega)
 obtain⟨o1,o2⟩:=comb_ord r.hands.toNat (by omega) m (by omega)
 have hp:(2:Nat)^r.hands.toNat≤2^4:=Nat.pow_le_pow_right (by omega) (by omega)
 have hdl:∀s,s∈driftsL (explR r (entsL r))↔s<2^r.hands.toNat∧popN s=m∧htruthsR r (entsL r) s≠[]:=fun s=>by
  unfold driftsL
  rw[addX_mem,List.mem_map]
  constructor
  ·rintro(h | ⟨u,hu,rfl⟩)
   ·simp at h
   ·obtain⟨g1,g2,g3⟩:=found_pop hr ((explR_iff he).1 hu)
    exact⟨g2,g1,List.ne_nil_of_mem g3⟩
  ·rintro⟨g1,g2,g3⟩
   obtain⟨u,hu⟩:=List.exists_mem_of_ne_nil _ g3
   exact .inr ⟨u,(explR_iff he).2 ((foundR_mem hr).2 ⟨s,g1,g2,hu⟩),driftN_of hr g1 (List.mem_filter.1 hu).1⟩
 refine(isort_eq (le:=leL) leL_trans leL_total (fun _ _=>leL_anti) (o2.filter _) ?_).symm
 refine(List.perm_ext_iff_of_nodup (o1.filter _) ?_).2 fun x=>?_
 ·rw[List.Nodup,List.pairwise_map]
  refine(addX_nodup List.nodup_nil:(driftsL (explR r (entsL r))).Nodup).imp_of_mem fun{a b} ha hb hab e=>hab ?_
  have h1:=(hdl a).1 ha
  have h2:=(hdl b).1 hb
  rw[← list_set a (by omega),← list_set b (by omega),e]
 ·rw[List.mem_map,List.mem_filter,decide_eq_true_eq]
  constructor
  ·rintro⟨hx,hd⟩
   obtain⟨g1,g2,g3⟩:=c1 x hx
   exact⟨setN x,(hdl _).2 ⟨g1,by rw[← popF_eq _ (by omega)];exact g2,hd⟩,g3⟩
  ·rintro⟨s,hs,rfl⟩
   obtain⟨g1,g2,g3⟩:=(hdl s).1 hs
   obtain⟨k1,k2⟩:=c2 s g1 (by rw[popF_eq _ (by omega)];exact g2)
   exact⟨k1,by rw[k2];exact g3⟩
theorem fewL_none{r:Ros}(hg:r.Good)(hro:rosE r=0)(h:∀m,m≤r.hands.toNat→hdue r m=[]):knownE r []=11∧fewL r=[]:=by
 have he:explR r (entsL r)=[]:=by
  rcases explR_spec r (entsL r) with⟨h1,_⟩ | ⟨m,h1,_,h3,_⟩
  ·exact h1
  ·exact absurd ((found_due hg.toHead h1).2 (h m h1)) h3
 have hk:knownE r []=11:=by
  unfold knownE
  rw[if_neg (fun c=>c hro),if_neg (fun c=>c rfl),if_pos he]
 exact⟨hk,by unfold fewL;rw[hk];rfl⟩
theorem fewL_some{r:Ros}(hg:r.Good)(hro:rosE r=0){m:Nat}(hm:m≤r.hands.toNat)(h1:hdue r m≠[])(h0:∀j,j<m→hdue r j=[]):knownE r []=0∧fewL r=hdue r m:=by
 rcases explR_spec r (entsL r) with⟨_,g⟩ | ⟨k,g1,g2,g3,g4⟩
 ·exact absurd ((found_due hg.toHead hm).1 (g m hm)) h1
 ·have hkm:k=m:=by
   rcases Nat.lt_trichotomy k m with c | c | c
   ·exact absurd ((found_due hg.toHead g1).2 (h0 k c)) g3
   ·exact c
   ·exact absurd ((found_due hg.toHead hm).1 (g4 m c)) h1
  subst hkm
  have hne:explR r (entsL r)≠[]:=by rw[g2];exact fun e=>g3 (addX_nil.1 e)
  have hk:knownE r []=0:=by
   unfold knownE
   rw[if_neg (fun c=>c hro),if_neg (fun c=>c rfl),if_neg hne]
  exact⟨hk,by unfold fewL;rw[if_pos hk];exact sets_due hg.toHead hm g2⟩
end Go.Proofs
