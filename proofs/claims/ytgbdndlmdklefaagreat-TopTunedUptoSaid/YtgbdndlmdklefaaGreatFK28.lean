/- Texts of a proof: lemmas. -/
import Derived.Test.YtgbdndlmdklefaaGreatFK21
import Derived.Laws.Bits64
import Derived.Test.YtgbdndlmdklefaaGreatFK27
import Derived.Test.YtgbdndlmdklefaaGreatFK14
import Derived.Test.YtgbdndlmdklefaaGreatFK15
set_option linter.unusedSimpArgs false
set_option linter.unusedVariables false
set_option maxRecDepth 100000
set_option maxHeartbeats 40000000
namespace Go.Proofs
open Go Go.Mu
variable {S:MC Tryz.prog}
def PotAt(σ:List AObj)(r:Nat):Prop:=∃s,hget σ r=some (.cells [.int .u64 s])
def pw(σ:List AObj)(r:Nat)(s:Int):List AObj:=hset σ r (.cells [.int .u64 s])
theorem pw_pw{σ:List AObj}{r:Nat}{s t:Int}:pw (pw σ r s) r t=pw σ r t:=hset_hset
theorem PotAt.pw{σ:List AObj}{r:Nat}(h:PotAt σ r)(s:Int):PotAt (pw σ r s) r:=by obtain⟨u,h⟩:=h;exact⟨s,hget_set h _⟩
theorem pw_self{σ:List AObj}{r:Nat}(h:PotAt σ r):∃s,pw σ r s=σ:=by obtain⟨s,h⟩:=h;exact⟨s,hset_same h⟩
theorem step_c(r:Nat)(σ:List AObj)(hp:PotAt σ r)(Q:AV→List AObj→Prop)(h:∀s' x,0≤x→x<18446744073709551616→Q (.int .u64 x) (pw σ r s')):ACalls S 102 [.ptr r 0] σ Q:=by
 obtain⟨s,hg⟩:=hp
 refine AcE (Tryz.envOK (S:=S) 31 (fun _=>([],[])) fs0 fs0_ok) Tryz.kp102 Tryz.func102 rfl ?_
 have hg2:=fun o=>hget_set hg o
 simp -implicitDefEqProofs (maxSteps:=9^9) (disch:=omega) only[go_sem,simprocAttr,hg,hg2]
 exact h _ _ (by rw[IntKind.wrap_u64];omega) (by rw[IntKind.wrap_u64];omega)
theorem upto_c(r:Nat)(most:Int)(hm:most<9223372036854775807)(σ:List AObj)(hp:PotAt σ r)(Q:AV→List AObj→Prop)(h:∀s' x,0≤x→x≤max 0 most→Q (.int .i64 x) (pw σ r s')):ACalls S 38 [.ptr r 0,.int .i64 most] σ Q:=by
 refine AcE (Tryz.envOK (S:=S) 15 (fun _=>([],[])) fs0 fs0_ok) Tryz.kp38 Tryz.func38 rfl ?_
 by_cases h1:most<1
 ·simp -implicitDefEqProofs (maxSteps:=9^9) (disch:=omega) only[go_sem,simprocAttr]
  obtain⟨s,hs⟩:=pw_self hp
  have:=h s 0 (by omega) (by omega)
  rwa [hs] at this
 ·have e2:IntKind.u64.wrap (most+1)=most+1:=by rw[IntKind.wrap_u64];omega
  simp -implicitDefEqProofs (maxSteps:=9^9) (disch:=omega) only[go_sem,simprocAttr,e2]
  refine step_c r σ hp _ fun s' x h2 h3=>?_
  have hy:0≤x.fdiv (2^min 11 64):=Int.fdiv_nonneg h2 (by decide)
  simp -implicitDefEqProofs (maxSteps:=9^9) (disch:=omega) only[go_sem,simprocAttr,e2]
  generalize x.fdiv (2^min 11 64)=y at hy⊢
  have h4:=Int.tmod_nonneg (most+1) hy
  have h5:=Int.tmod_lt_of_pos y (b:=most+1) (by omega)
  have e4:IntKind.i64.wrap (y.tmod (most+1))=y.tmod (most+1):=by rw[IntKind.wrap_i64];omega
  try rw[e4]
  exact h _ _ h4 (by omega)
theorem within_c(r:Nat)(lo hi:Int)(h1: -1000000000000≤lo∧lo≤1000000000000)(h2: -1000000000000≤hi∧hi≤1000000000000)(σ:List AObj)(hp:PotAt σ r)(Q:AV→List AObj→Prop)(h:∀s' x,lo≤x→x≤max lo hi→Q (.int .i64 x) (pw σ r s')):ACalls S 61 [.ptr r 0,.int .i64 lo,.int .i64 hi] σ Q:=by
 refine AcE (Tryz.envOK (S:=S) 14 (fun _=>([],[])) fs0 fs0_ok) Tryz.kp61 Tryz.func61 rfl ?_
 simp -implicitDefEqProofs (maxSteps:=9^9) (disch:=omega) only[go_sem,simprocAttr]
 refine upto_c r _ (by omega) σ hp _ fun s' x h3 h4=>?_
 simp -implicitDefEqProofs (maxSteps:=9^9) (disch:=omega) only[go_sem,simprocAttr]
 exact h _ _ (by omega) (by omega)
theorem odds_c(r:Nat)(n m:Int)(h1: -1000000000000≤n∧n≤1000000000000)(h2: -1000000000000≤m∧m≤1000000000000)(σ:List AObj)(hp:PotAt σ r)(Q:AV→List AObj→Prop)(h:∀s' b,Q (.bool b) (pw σ r s')):ACalls S 21 [.ptr r 0,.int .i64 n,.int .i64 m] σ Q:=by
 refine AcE (Tryz.envOK (S:=S) 13 (fun _=>([],[])) fs0 fs0_ok) Tryz.kp21 Tryz.func21 rfl ?_
 simp -implicitDefEqProofs (maxSteps:=9^9) (disch:=omega) only[go_sem,simprocAttr]
 refine upto_c r _ (by omega) σ hp _ fun s' x h3 h4=>?_
 simp -implicitDefEqProofs (maxSteps:=9^9) (disch:=omega) only[go_sem,simprocAttr]
 exact⟨fun _=>h _ _,fun _=>h _ _⟩
theorem of_c(r:Nat)(l:List Int)(tk:Tok)(hl:1≤l.length∧l.length≤1000)(σ:List AObj)(hp:PotAt σ r)(Q:AV→List AObj→Prop)(h:∀s' x,x∈l→Q (.int .i64 x) (pw σ r s')):ACalls S 39 [.ptr r 0,.list tk 1 (l.map (.int .i64))] σ Q:=by
 refine AcE (Tryz.envOK (S:=S) 16 (fun _=>([],[])) fs0 fs0_ok) Tryz.kp39 Tryz.func39 rfl ?_
 simp -implicitDefEqProofs (maxSteps:=9^9) (disch:=omega) only[go_sem,simprocAttr]
 refine upto_c r _ (by omega) σ hp _ fun s' x h3 h4=>?_
 simp -implicitDefEqProofs (maxSteps:=9^9) (disch:=omega) only[go_sem,simprocAttr,idx_tg]
 refine h _ _ ?_
 have hx:x.toNat<l.length:=by omega
 have:tg l x=l[x.toNat]:=by simp[tg,List.getD,List.getElem?_eq_getElem hx]
 rw[this];exact List.getElem_mem hx
theorem near_c(r:Nat)(n least most wide:Int)(h1:0≤least∧least≤n∧n≤most∧most≤1000000000)(h2:0≤wide∧wide≤1000000)(σ:List AObj)(hp:PotAt σ r)(Q:AV→List AObj→Prop)(h:∀s' a b,least≤a→a≤n→n≤b→b≤most→n-wide≤a→b≤n+wide→∀junk,Q (Rng.mk a b).av (pw σ r s'++junk)):ACalls S 122 [.ptr r 0,.int .i64 n,.int .i64 least,.int .i64 most,.int .i64 wide] σ Q:=by
 refine AcE (Tryz.envOK (S:=S) 32 (fun _=>([],[])) fs0 fs0_ok) Tryz.kp122 Tryz.func122 rfl ?_
 have hr:r<σ.length:=by obtain⟨s,hg⟩:=hp;exact hget_lt hg
 have pwa:∀l s,pw (σ++l) r s=pw σ r s++l:=fun l s=>by unfold pw hset;rw[List.set_append_left _ _ hr]
 have pota:∀l s,PotAt (pw σ r s++l) r:=fun l s=>by
  obtain⟨u,hg⟩:=hp.pw s
  exact⟨u,by rw[hget_app (hget_lt hg)];exact hg⟩
 have pwa2:∀l s t,pw (pw σ r s++l) r t=pw σ r t++l:=fun l s t=>by
  have:r<(pw σ r s).length:=by unfold pw;rw[length_hset];exact hr
  show hset (pw σ r s++l) r _=_
  unfold hset;rw[List.set_append_left _ _ this]
  show pw (pw σ r s) r t++l=_
  rw[pw_pw]
 have p0:PotAt (σ++[.cells [.int .i64 0,.int .i64 0]]) r:=by obtain⟨u,hg⟩:=hp;exact⟨u,by rw[hget_app hr];exact hg⟩
 have hof:∀(x:Int) (σ:List AObj) (hp:PotAt σ r) (Q:AV→List AObj→Prop),(∀s' y,(y=0∨y=x)→Q (.int .i64 y) (pw σ r s'))→ACalls S 39 [.ptr r 0,.list .full 1 [.int .i64 0,.int .i64 0,.int .i64 x]] σ Q:=fun x σ hp Q hq=>
  of_c r [0,0,x] .full (by simp) σ hp Q fun s' y hy=>hq s' y (by simpa using hy)
 simp -implicitDefEqProofs (maxSteps:=9^9) (disch:=omega) only[go_sem,simprocAttr]
 refine upto_c r wide (by omega) _ p0 _ fun s1 x1 a1 a2=>?_
 rw[pwa]
 simp -implicitDefEqProofs (maxSteps:=9^9) (disch:=omega) only[go_sem,simprocAttr]
 refine hof x1 _ (pota _ _) _ fun s2 y1 a3=>?_
 rw[pwa2]
 have b1:0≤y1∧y1≤wide:=by omega
 simp -implicitDefEqProofs (maxSteps:=9^9) (disch:=omega) only[go_sem,simprocAttr]
 refine upto_c r wide (by omega) _ (pota _ _) _ fun s3 x2 a5 a6=>?_
 rw[pwa2]
 simp -implicitDefEqProofs (maxSteps:=9^9) (disch:=omega) only[go_sem,simprocAttr]
 refine hof x2 _ (pota _ _) _ fun s4 y2 a7=>?_
 rw[pwa2]
 have b2:0≤y2∧y2≤wide:=by omega
 have hlp:(pw σ r s4).length=σ.length:=by unfold pw;exact length_hset
 have g1:hget (pw σ r s4++[.cells [.int .i64 0,.int .i64 0]]) σ.length=some (.cells [.int .i64 0,.int .i64 0]):=by rw[← hlp];exact hget_at0
 have g2:∀o,hset (pw σ r s4++[.cells [.int .i64 0,.int .i64 0]]) σ.length o=pw σ r s4++[o]:=fun o=>by rw[← hlp];exact hset_at0
 have g3:∀o,hget (pw σ r s4++[o]) σ.length=some o:=fun o=>by rw[← hlp];exact hget_at0
 simp -implicitDefEqProofs (maxSteps:=9^9) (disch:=omega) only[go_sem,simprocAttr,g1,g2,g3]
 refine h s4 (if least<n-y1 then n-y1 else least) (if n+y2<most then n+y2 else most) ?_ ?_ ?_ ?_ ?_ ?_ _<;> (split<;> omega)
def truAV(rates by_:List Int):AV:= .agg [ints1 rates,ints1 by_]
theorem off_p(r:Ros)(rates by_:List Int)(h d:Int)(hl:r.sets.length≤1000)(hh:0≤h∧h<rates.length)(hrl:rates.length≤1000)(hd:0≤d∧d≤60)(hr:∀n∈rates, -5≤n∧n≤5):PureV S 69 [r.av,truAV rates by_,.int .i64 h,.int .i64 d] (.int .i64 (offX r rates h d)):=by
 refine PvE (Tryz.envOK (S:=S) 53 (fun _=>([],[])) fs0 fs0_ok) (.int) Tryz.kp69 Tryz.func69 rfl ?_
 intro σ
 obtain⟨hands,skill,mn,mx,sets,ents⟩:=r
 simp only[Ros.av,truAV,ints1] at hl⊢
 simp -implicitDefEqProofs (maxSteps:=9^9) (disch:=omega) only[go_sem,simprocAttr]
 refine ARun.forS (Tryz.envOK (S:=S) 53 (fun _=>([],[])) fs0 fs0_ok) sets.length (fun _=>True) (fun i=>[(9,.int .i64 ((sets.take i).foldl (setF h d) 0)),(10,.int .i64 i)]) (fun _ _=>σ++[.cells [.int .i64 hands,.int .i64 skill,.int .i64 mn,.int .i64 mx,.list .no 2 (sets.map Sg.av),.list .no 6 (ents.map Tn.av)],.cells [.list .no 1 (rates.map (.int .i64)),.list .no 1 (by_.map (.int .i64))]]) [] (by kernel_rfl) rfl (by simp[upd,ins,subF,lookA]) trivial ?_ ?_
 ·intro i j hi _ ih
  rw[take_foldl hi] at ih
  have hidx:idx (sets.map Sg.av) (i:Int)=some (Sg.av sets[i]):=idx_nat hi
  generalize (sets.take i).foldl (setF h d) 0=m at *
  generalize sets[i]=s at hidx ih
  simp only[Sg.av] at hidx
  simp -implicitDefEqProofs (maxSteps:=9^9) (disch:=omega) only[go_sem,simprocAttr,hidx]
  refine⟨fun p1=>⟨fun p2=>?_,fun p2=>?_⟩,fun p1=>?_⟩
  ·exact(ih trivial []).castS rfl (by simp[upd,ins,subF,lookA,setF,p1,p2])
  ·exact(ih trivial []).castS rfl (by simp[upd,ins,subF,lookA,setF,p1,p2])
  ·exact(ih trivial []).castS rfl (by simp[upd,ins,subF,lookA,setF,p1])
 ·intro j _
  rw[List.take_length]
  have hfi:=@fromL_in sets h d hd.1
  have hfe:sets.foldl (setF h d) 0=fromL sets h d:=rfl
  rw[hfe]
  have hrt: -5≤tg rates h∧tg rates h≤5:=by
   have hlt:h.toNat<rates.length:=by omega
   have:tg rates h=rates[h.toNat]:=by simp[tg,List.getD_eq_getElem?_getD,hlt]
   rw[this];exact hr _ (List.getElem_mem hlt)
  have hoo:offX ⟨hands,skill,mn,mx,sets,ents⟩ rates h d=tg rates h*(d-fromL sets h d):=rfl
  rw[hoo]
  have hw1:IntKind.i64.wrap (d-fromL sets h d)=d-fromL sets h d:=wrap64 (by omega) (by omega)
  have hw2:IntKind.i64.wrap (tg rates h*(d-fromL sets h d))=tg rates h*(d-fromL sets h d):=by
   generalize tg rates h=a at hrt
   have h3:0≤d-fromL sets h d∧d-fromL sets h d≤60:=by omega
   generalize d-fromL sets h d=b at h3
   have: -300≤a*b∧a*b≤300:=by
    rcases(by omega:a= -5∨a= -4∨a= -3∨a= -2∨a= -1∨a=0∨a=1∨a=2∨a=3∨a=4∨a=5) with rfl | rfl | rfl | rfl | rfl | rfl | rfl | rfl | rfl | rfl | rfl<;> omega
   exact wrap64 (by omega) (by omega)
  have hidx:idx (rates.map (AV.int .i64)) h=some (.int .i64 (tg rates h)):=idx_tg hh.1 hh.2
  have hmi:=@tget rates h hh.1 hh.2
  simp -implicitDefEqProofs (maxSteps:=9^9) (disch:=omega) only[go_sem,simprocAttr,hw1,hw2,hidx,hmi]
theorem hlength_pw{σ:List AObj}{r:Nat}{s:Int}:(pw σ r s).length=σ.length:=length_hset
theorem hhget_pw0{σ l:List AObj}{r:Nat}{s:Int}:hget (pw σ r s++l) σ.length=l[0]? :=by rw[← hlength_pw (σ:=σ) (r:=r) (s:=s)];exact hget_at0
theorem hhget_pw{σ l:List AObj}{r k:Nat}{s:Int}:hget (pw σ r s++l) (σ.length+k)=l[k]? :=by rw[← hlength_pw (σ:=σ) (r:=r) (s:=s)];exact hget_at
theorem hhset_pw0{σ l:List AObj}{r:Nat}{s:Int}{o:AObj}:hset (pw σ r s++l) σ.length o=pw σ r s++l.set 0 o:=by rw[← hlength_pw (σ:=σ) (r:=r) (s:=s)];exact hset_at0
theorem hhset_pw{σ l:List AObj}{r k:Nat}{s:Int}{o:AObj}:hset (pw σ r s++l) (σ.length+k) o=pw σ r s++l.set k o:=by rw[← hlength_pw (σ:=σ) (r:=r) (s:=s)];exact hset_at
theorem hpw_app{σ l:List AObj}{r:Nat}{s:Int}(hr:r<σ.length):pw (σ++l) r s=pw σ r s++l:=by unfold pw hset;rw[List.set_append_left _ _ hr]
theorem hpw_pwa{σ l:List AObj}{r:Nat}{s t:Int}(hr:r<σ.length):pw (pw σ r s++l) r t=pw σ r t++l:=by
 rw[hpw_app (by rw[hlength_pw];exact hr),pw_pw]
theorem PotAt.app1{σ l:List AObj}{r:Nat}(h:PotAt σ r):PotAt (σ++l) r:=by obtain⟨s,hg⟩:=h;exact⟨s,by rw[hget_app (hget_lt hg)];exact hg⟩
theorem PotAt.lt1{σ:List AObj}{r:Nat}(h:PotAt σ r):r<σ.length:=by obtain⟨s,hg⟩:=h;exact hget_lt hg
structure TrueT(r:Ros)(rates:List Int)(w:Int)(x:Tn)(by_:Int):Prop where
 by_in:0≤by_∧by_<r.hands
 day:0≤x.day∧x.day≤12
 hand:x.hand=by_∨x.hand= -1
 due:500≤x.due∧x.due≤2000
 ear:∃t lo hi rds,(-r.skill≤t- (x.due+offX r rates by_ x.day)∧t- (x.due+offX r rates by_ x.day)≤r.skill)∧(1≤lo∧lo≤t∧t≤hi∧hi≤100000∧hi-lo≤2*w)∧(rds=[]∨rds=[⟨1,0,0,20,⟨t/5,t/5⟩⟩])∧x.ear=⟨0,[⟨lo,hi⟩],rds⟩
theorem tunedOf_c(p:Nat)(r:Ros)(rates by_:List Int)(w:Int)(hw:0≤w∧w≤10)(hh:1≤r.hands∧r.hands≤4)(hs:0≤r.skill∧r.skill≤3)(hrl:(rates.length:Int)=r.hands)(hr:∀n∈rates, -3≤n∧n≤3)(hsl:r.sets.length≤1000)
  (σ:List AObj) (hp:PotAt σ p) (Q:AV→List AObj→Prop) (h:∀s' x b junk,TrueT r rates w x b→Q (.tup [x.av,.int .i64 b]) (pw σ p s'++junk)) :
  ACalls S 64 [.ptr p 0,r.av,truAV rates by_,.int .i64 w] σ Q:=by
 refine ACalls.wkW ?_
 refine AcE (Tryz.envOK (S:=S) 65 Tryz.ord64 fs0 fs0_ok) Tryz.kp64 Tryz.func64 rfl ?_
 have hpl:=hp.lt1
 simp only[Ros.av,truAV,ints1]
 have hwh:IntKind.i64.wrap (r.hands-1)=r.hands-1:=wrap64 (by omega) (by omega)
 simp -implicitDefEqProofs (maxSteps:=9^9) (disch:=omega) only[go_sem,simprocAttr,hwh]
 refine upto_c p (r.hands-1) (by omega) _ hp.app1 _ fun s1 b b1 b2=>?_
 rw[hpw_app hpl]
 have hb:0≤b∧b<r.hands:=by omega
 clear b1 b2
 simp -implicitDefEqProofs (maxSteps:=9^9) (disch:=omega) only[go_sem,simprocAttr,hlength_pw,hhget_pw0,hhget_pw,hhset_pw0,hhset_pw]
 refine upto_c p 12 (by omega) _ (hp.pw _).app1 _ fun s2 dy d1 d2=>?_
 rw[hpw_pwa hpl]
 have hdy:0≤dy∧dy≤12:=by omega
 clear d1 d2
 simp -implicitDefEqProofs (maxSteps:=9^9) (disch:=omega) only[go_sem,simprocAttr,hlength_pw,hhget_pw0,hhget_pw,hhset_pw0,hhset_pw]
 refine within_c p 500 2000 (by omega) (by omega) _ (hp.pw _).app1 _ fun s3 due e1 e2=>?_
 rw[hpw_pwa hpl]
 have hdue:500≤due∧due≤2000:=by omega
 clear e1 e2
 simp -implicitDefEqProofs (maxSteps:=9^9) (disch:=omega) only[go_sem,simprocAttr,hlength_pw,hhget_pw0,hhget_pw,hhset_pw0,hhset_pw]
 have hoff: -36≤offX r rates b dy∧offX r rates b dy≤36:=by
  have h1:=@fromL_in r.sets b dy hdy.1
  have h2: -3≤tg rates b∧tg rates b≤3:=by
   have hlt:b.toNat<rates.length:=by omega
   have:tg rates b=rates[b.toNat]:=by simp[tg,List.getD_eq_getElem?_getD,hlt]
   rw[this];exact hr _ (List.getElem_mem hlt)
  unfold offX
  generalize tg rates b=a at h2
  have h3:0≤dy-fromL r.sets b dy∧dy-fromL r.sets b dy≤12:=by omega
  generalize dy-fromL r.sets b dy=c at h3
  rcases(by omega:a= -3∨a= -2∨a= -1∨a=0∨a=1∨a=2∨a=3) with rfl | rfl | rfl | rfl | rfl | rfl | rfl<;> omega
 refine off_p r rates by_ b dy hsl ⟨hb.1,by omega⟩ (by omega) ⟨by omega,by omega⟩ (fun n hn=>by have:=hr n hn;omega) _ _ ?_
 obtain⟨of,hof⟩:∃of,of=offX r rates b dy:=⟨_,rfl⟩
 rw[← hof] at hoff⊢
 have hwn:IntKind.i64.wrap (0-r.skill)= -r.skill:=by rw[wrap64 (by omega) (by omega)];omega
 simp -implicitDefEqProofs (maxSteps:=9^9) (disch:=omega) only[go_sem,simprocAttr,hlength_pw,hhget_pw0,hhget_pw,hhset_pw0,hhset_pw,hwn]
 refine within_c p (0-r.skill) r.skill (by omega) (by omega) _ (hp.pw _).app1 _ fun s4 er f1 f2=>?_
 rw[hpw_pwa hpl]
 have her: -r.skill≤er∧er≤r.skill:=by omega
 clear f1 f2
 have hwt:IntKind.i64.wrap (due+of+er)=due+of+er:=wrap64 (by omega) (by omega)
 have hwt1:IntKind.i64.wrap (due+of)=due+of:=wrap64 (by omega) (by omega)
 simp -implicitDefEqProofs (maxSteps:=9^9) (disch:=omega) only[go_sem,simprocAttr,hlength_pw,hhget_pw0,hhget_pw,hhset_pw0,hhset_pw,hwt,hwt1]
 refine near_c p (due+of+er) 1 100000 w (by omega) (by omega) _ (hp.pw _).app1 _ fun s5 lo hi c1 c2 c3 c4 c5 c6 junk=>?_
 rw[hpw_pwa hpl,List.append_assoc]
 have hq5:Int.tdiv (due+of+er) 5=(due+of+er)/5:=Int.tdiv_eq_ediv_of_nonneg (by omega)
 have hwq:IntKind.i64.wrap ((due+of+er)/5)=(due+of+er)/5:=wrap64 (by omega) (by omega)
 have hT:∀rds hd,(rds=[]∨rds=[⟨1,0,0,20,⟨(due+of+er)/5,(due+of+er)/5⟩⟩])→(hd=b∨hd= -1)→TrueT r rates w ⟨dy,hd,due,⟨0,[⟨lo,hi⟩],rds⟩⟩ b:=fun rds hd g1 g2=>
  ⟨hb,hdy,g2,hdue,due+of+er,lo,hi,rds,(show -r.skill≤due+of+er- (due+offX r rates b dy)∧due+of+er- (due+offX r rates b dy)≤r.skill by rw[← hof];omega),by omega,g1,rfl⟩
 simp only[Rng.av]
 simp -implicitDefEqProofs (maxSteps:=9^9) (disch:=omega) only[go_sem,simprocAttr,hlength_pw,hhget_pw0,hhget_pw,hhset_pw0,hhset_pw]
 refine odds_c p 1 4 (by omega) (by omega) _ (hp.pw _).app1 _ fun s6 q1=>?_
 rw[hpw_pwa hpl]
 cases q1
 ·simp -implicitDefEqProofs (maxSteps:=9^9) (disch:=omega) only[go_sem,simprocAttr,hlength_pw,hhget_pw0,hhget_pw,hhset_pw0,hhset_pw]
  refine odds_c p 1 2 (by omega) (by omega) _ (hp.pw _).app1 _ fun s7 q2=>?_
  rw[hpw_pwa hpl]
  cases q2
  ·simp -implicitDefEqProofs (maxSteps:=9^9) (disch:=omega) only[go_sem,simprocAttr,hlength_pw,hhget_pw0,hhget_pw,hhset_pw0,hhset_pw]
   exact⟨_,wk_weak (by simp[wk,wkL,wk1,wk0,Tn.av,Tn.cells,Rng.av]),h _ _ _ _ (hT [] b (.inl rfl) (.inl rfl))⟩
  ·simp -implicitDefEqProofs (maxSteps:=9^9) (disch:=omega) only[go_sem,simprocAttr,hlength_pw,hhget_pw0,hhget_pw,hhset_pw0,hhset_pw]
   exact⟨_,wk_weak (by simp[wk,wkL,wk1,wk0,Tn.av,Tn.cells,Rng.av]),h _ _ _ _ (hT [] (-1) (.inl rfl) (.inr rfl))⟩
 ·simp -implicitDefEqProofs (maxSteps:=9^9) (disch:=omega) only[go_sem,simprocAttr,hlength_pw,hhget_pw0,hhget_pw,hhset_pw0,hhset_pw,hq5,hwq]
  refine odds_c p 1 2 (by omega) (by omega) _ (hp.pw _).app1 _ fun s7 q2=>?_
  rw[hpw_pwa hpl]
  cases q2
  ·simp -implicitDefEqProofs (maxSteps:=9^9) (disch:=omega) only[go_sem,simprocAttr,hlength_pw,hhget_pw0,hhget_pw,hhset_pw0,hhset_pw]
   exact⟨_,wk_weak (by simp[wk,wkL,wk1,wk0,Tn.av,Tn.cells,Rng.av,Rd.av]),h _ _ _ _ (hT _ b (.inr rfl) (.inl rfl))⟩
  ·simp -implicitDefEqProofs (maxSteps:=9^9) (disch:=omega) only[go_sem,simprocAttr,hlength_pw,hhget_pw0,hhget_pw,hhset_pw0,hhset_pw]
   exact⟨_,wk_weak (by simp[wk,wkL,wk1,wk0,Tn.av,Tn.cells,Rng.av,Rd.av]),h _ _ _ _ (hT _ (-1) (.inr rfl) (.inr rfl))⟩
theorem TrueT.congr{r r2:Ros}{rates:List Int}{w:Int}{x:Tn}{b:Int}(h:TrueT r rates w x b)(h1:r2.hands=r.hands)(h2:r2.skill=r.skill)(h3:r2.sets=r.sets):TrueT r2 rates w x b:=by
 obtain⟨t,lo,hi,rds,g1,g2,g3,g4⟩:=h.ear
 refine⟨by rw[h1];exact h.by_in,h.day,h.hand,h.due,t,lo,hi,rds,?_,g2,g3,g4⟩
 have:offX r2 rates b x.day=offX r rates b x.day:=by unfold offX;rw[h3]
 rw[this,h2];exact g1
structure TrueR(H E w:Int)(r:Ros)(rates by_:List Int):Prop where
 hands:1≤r.hands∧r.hands≤H
 skill:0≤r.skill∧r.skill≤3
 mn: -3≤r.mn∧r.mn≤1
 mx:1≤r.mx∧r.mx≤3
 rl:(rates.length:Int)=r.hands
 rate:∀n∈rates,n=0∨(r.mn≤n∧n≤r.mx)
 sl:r.sets.length≤2
 set:∀s∈r.sets,(0≤s.hand∧s.hand<r.hands)∧0≤s.day∧s.day≤9
 el:(r.ents.length:Int)≤E
 bl:by_.length=r.ents.length
 ent:∀i (h:i<r.ents.length) (h':i<by_.length),TrueT r rates w r.ents[i] by_[i]
def rosC(h s a b:Int)(ss es:AV):AObj:= .cells [.int .i64 h,.int .i64 s,.int .i64 a,.int .i64 b,ss,es]
theorem rosterOf_c(p:Nat)(H E w:Int)(hH:1≤H∧H≤4)(hE:0≤E∧E≤5)(hw:0≤w∧w≤10)(σ:List AObj)(hp:PotAt σ p)(Q:AV→List AObj→Prop)(h:∀s' r rates by_ junk,TrueR H E w r rates by_→Q (.tup [r.av,truAV rates by_]) (pw σ p s'++junk)) :
  ACalls S 20 [.ptr p 0,.int .i64 H,.int .i64 E,.int .i64 w] σ Q:=by
 refine ACalls.wkW ?_
 refine AcE (Tryz.envOK (S:=S) 106 Tryz.ord20 fs0 fs0_ok) Tryz.kp20 Tryz.func20 rfl ?_
 have hpl:=hp.lt1
 simp -implicitDefEqProofs (maxSteps:=9^9) (disch:=omega) only[go_sem,simprocAttr]
 refine within_c p 1 H (by omega) (by omega) _ hp.app1 _ fun s1 hands b1 b2=>?_
 rw[hpw_app hpl]
 have hhd:1≤hands∧hands≤H:=by omega
 clear b1 b2
 simp -implicitDefEqProofs (maxSteps:=9^9) (disch:=omega) only[go_sem,simprocAttr,hlength_pw,hhget_pw0,hhget_pw,hhset_pw0,hhset_pw]
 refine upto_c p 3 (by omega) _ (hp.pw _).app1 _ fun s2 skill d1 d2=>?_
 rw[hpw_pwa hpl]
 have hsk:0≤skill∧skill≤3:=by omega
 clear d1 d2
 simp -implicitDefEqProofs (maxSteps:=9^9) (disch:=omega) only[go_sem,simprocAttr,hlength_pw,hhget_pw0,hhget_pw,hhset_pw0,hhset_pw]
 refine within_c p (-3) 1 (by omega) (by omega) _ (hp.pw _).app1 _ fun s3 mn e1 e2=>?_
 rw[hpw_pwa hpl]
 have hmn: -3≤mn∧mn≤1:=by omega
 clear e1 e2
 simp -implicitDefEqProofs (maxSteps:=9^9) (disch:=omega) only[go_sem,simprocAttr,hlength_pw,hhget_pw0,hhget_pw,hhset_pw0,hhset_pw]
 refine within_c p 1 3 (by omega) (by omega) _ (hp.pw _).app1 _ fun s4 mx f1 f2=>?_
 rw[hpw_pwa hpl]
 have hmx:1≤mx∧mx≤3:=by omega
 clear f1 f2
 simp -implicitDefEqProofs (maxSteps:=9^9) (disch:=omega) only[go_sem,simprocAttr,hlength_pw,hhget_pw0,hhget_pw,hhset_pw0,hhset_pw]
 refine ARun.ghostK (σ.length+3) 0 1 (by rw[hhget_pw];rfl) rfl ?_
 simp only[hhset_pw,List.set_cons_succ,List.set_cons_zero,List.append_assoc,List.cons_append,List.nil_append,List.length_append,List.length_cons,List.length_nil,Nat.zero_add,Nat.reduceAdd,hlength_pw]
 refine ARun.loopJ (Tryz.envOK (S:=S) 106 Tryz.ord20 fs0 fs0_ok) (α:=List Int) (fun L=>hands.toNat-L.length)
  (fun L τ=>(∃s,τ=pw σ p s++[rosC 0 0 0 0 (.list .full 0 []) (.list .full 0 []),.cells [.list .full 0 [],.list .full 0 []],rosC hands skill mn mx (.list .full 0 []) (.list .full 0 []),.cells [.list (.own (σ.length+4)) 1 (L.map (.int .i64)),.list .full 0 []],.tail L.length 1])∧(L.length:Int)≤hands∧∀n∈L,n=0∨(mn≤n∧n≤mx))
  (fun L=>[(12,.int .i64 (L.length:Int))]) [] (by kernel_rfl) (by simp[upd,ins,subF,lookA]) ⟨⟨s4,by simp[rosC]⟩,by simp;omega,by simp⟩ ?_
 rintro L τ ⟨⟨s5,rfl⟩,hL1,hL2⟩ ih
 simp only[rosC] at ih⊢
 by_cases hlt:(L.length:Int)<hands
 ·have hlt':((L.length:Int)<hands)=True:=eq_true hlt
  have hwl:IntKind.i64.wrap ((L.length:Int)+1)=(L.length:Int)+1:=wrap64 (by omega) (by omega)
  simp -implicitDefEqProofs (maxSteps:=9^9) (disch:=omega) only[go_sem,simprocAttr,hlength_pw,hhget_pw0,hhget_pw,hhset_pw0,hhset_pw,hlt']
  refine odds_c p 1 3 (by omega) (by omega) _ (hp.pw _).app1 _ fun s6 q1=>?_
  rw[hpw_pwa hpl]
  cases q1
  ·simp -implicitDefEqProofs (maxSteps:=9^9) (disch:=omega) only[go_sem,simprocAttr,hlength_pw,hhget_pw0,hhget_pw,hhset_pw0,hhset_pw,hwl]
   refine(ih (L++[0]) _ (by rw[List.length_append,List.length_singleton];omega) ⟨⟨s6,rfl⟩,by rw[List.length_append,List.length_singleton];omega,fun n hn=>?_⟩).castS (by simp) (by simp[upd,ins,subF,lookA])
   rcases List.mem_append.1 hn with hn | hn
   ·exact hL2 n hn
   ·simp at hn;exact .inl hn
  ·simp -implicitDefEqProofs (maxSteps:=9^9) (disch:=omega) only[go_sem,simprocAttr,hlength_pw,hhget_pw0,hhget_pw,hhset_pw0,hhset_pw,hwl]
   refine within_c p mn mx (by omega) (by omega) _ (hp.pw _).app1 _ fun s7 n n1 n2=>?_
   rw[hpw_pwa hpl]
   simp -implicitDefEqProofs (maxSteps:=9^9) (disch:=omega) only[go_sem,simprocAttr,hlength_pw,hhget_pw0,hhget_pw,hhset_pw0,hhset_pw,hwl]
   refine(ih (L++[n]) _ (by rw[List.length_append,List.length_singleton];omega) ⟨⟨s7,rfl⟩,by rw[List.length_append,List.length_singleton];omega,fun m hm=>?_⟩).castS (by simp) (by simp[upd,ins,subF,lookA])
   rcases List.mem_append.1 hm with hm | hm
   ·exact hL2 m hm
   ·simp at hm;subst hm;exact .inr (by omega)
 ·have hlt':((L.length:Int)<hands)=False:=eq_false hlt
  have hLl:(L.length:Int)=hands:=by omega
  clear ih hlt
  simp -implicitDefEqProofs (maxSteps:=9^9) (disch:=omega) only[go_sem,simprocAttr,hlength_pw,hhget_pw0,hhget_pw,hhset_pw0,hhset_pw,hlt']
  clear hlt'
  refine upto_c p 2 (by omega) _ (hp.pw _).app1 _ fun s6 m m1 m2=>?_
  rw[hpw_pwa hpl]
  have hm:0≤m∧m≤2:=by omega
  clear m1 m2
  simp -implicitDefEqProofs (maxSteps:=9^9) (disch:=omega) only[go_sem,simprocAttr,hlength_pw,hhget_pw0,hhget_pw,hhset_pw0,hhset_pw]
  refine ARun.ghostK (σ.length+2) 4 2 (by rw[hhget_pw];rfl) rfl ?_
  simp only[hhset_pw,List.set_cons_succ,List.set_cons_zero,List.append_assoc,List.cons_append,List.nil_append,List.length_append,List.length_cons,List.length_nil,Nat.zero_add,Nat.reduceAdd,hlength_pw]
  refine ARun.loopJ (Tryz.envOK (S:=S) 106 Tryz.ord20 fs0 fs0_ok) (α:=List Sg) (fun Z=>m.toNat-Z.length)
   (fun Z τ=>(∃s,τ=pw σ p s++[rosC 0 0 0 0 (.list .full 0 []) (.list .full 0 []),.cells [.list .full 0 [],.list .full 0 []],rosC hands skill mn mx (.list (.own (σ.length+5)) 2 (Z.map Sg.av)) (.list .full 0 []),.cells [.list (.own (σ.length+4)) 1 (L.map (.int .i64)),.list .full 0 []],.tail L.length 1,.tail Z.length 2])∧(Z.length:Int)≤m∧∀s∈Z,(0≤s.hand∧s.hand<hands)∧0≤s.day∧s.day≤9)
   (fun Z=>[(14,.int .i64 (m- (Z.length:Int)))]) [] (by kernel_rfl) (by simp[upd,ins,subF,lookA]) ⟨⟨s6,by simp[rosC]⟩,by simp;omega,by simp⟩ ?_
  rintro Z τ ⟨⟨s7,rfl⟩,hZ1,hZ2⟩ ih
  simp only[rosC] at ih⊢
  have hwh:IntKind.i64.wrap (hands-1)=hands-1:=wrap64 (by omega) (by omega)
  by_cases hlt:0<m- (Z.length:Int)
  ·have hlt':(0<m- (Z.length:Int))=True:=eq_true hlt
   have hwm:IntKind.i64.wrap (m- (Z.length:Int)-1)=m- (Z.length:Int)-1:=wrap64 (by omega) (by omega)
   simp -implicitDefEqProofs (maxSteps:=9^9) (disch:=omega) only[go_sem,simprocAttr,hlength_pw,hhget_pw0,hhget_pw,hhset_pw0,hhset_pw,hlt',hwh]
   refine upto_c p (hands-1) (by omega) _ (hp.pw _).app1 _ fun s8 x x1 x2=>?_
   rw[hpw_pwa hpl]
   have hx:0≤x∧x<hands:=by omega
   clear x1 x2
   simp -implicitDefEqProofs (maxSteps:=9^9) (disch:=omega) only[go_sem,simprocAttr,hlength_pw,hhget_pw0,hhget_pw,hhset_pw0,hhset_pw,hlt',hwh]
   refine upto_c p 9 (by omega) _ (hp.pw _).app1 _ fun s9 y y1 y2=>?_
   rw[hpw_pwa hpl]
   have hy:0≤y∧y≤9:=by omega
   clear y1 y2
   simp -implicitDefEqProofs (maxSteps:=9^9) (disch:=omega) only[go_sem,simprocAttr,hlength_pw,hhget_pw0,hhget_pw,hhset_pw0,hhset_pw,hlt',hwh,hwm]
   refine(ih (Z++[⟨x,y⟩]) _ (by rw[List.length_append,List.length_singleton];omega) ⟨⟨s9,rfl⟩,by rw[List.length_append,List.length_singleton];omega,fun z hz=>?_⟩).castS (by simp[Sg.av]) (by simp[upd,ins,subF,lookA];omega)
   rcases List.mem_append.1 hz with hz | hz
   ·exact hZ2 z hz
   ·simp at hz;subst hz;exact⟨hx,hy⟩
  ·have hlt':(0<m- (Z.length:Int))=False:=eq_false hlt
   have hZl:Z.length≤2:=by omega
   clear ih hlt
   simp -implicitDefEqProofs (maxSteps:=9^9) (disch:=omega) only[go_sem,simprocAttr,hlength_pw,hhget_pw0,hhget_pw,hhset_pw0,hhset_pw,hlt']
   clear hlt' hZ1
   refine upto_c p E (by omega) _ (hp.pw _).app1 _ fun s8 n n1 n2=>?_
   rw[hpw_pwa hpl]
   have hn:0≤n∧n≤E:=by omega
   clear n1 n2
   simp -implicitDefEqProofs (maxSteps:=9^9) (disch:=omega) only[go_sem,simprocAttr,hlength_pw,hhget_pw0,hhget_pw,hhset_pw0,hhset_pw]
   refine ARun.ghostK (σ.length+2) 5 6 (by rw[hhget_pw];rfl) rfl ?_
   simp only[hhset_pw,List.set_cons_succ,List.set_cons_zero,List.append_assoc,List.cons_append,List.nil_append,List.length_append,List.length_cons,List.length_nil,Nat.zero_add,Nat.reduceAdd,hlength_pw]
   refine ARun.ghostK (σ.length+3) 1 1 (by rw[hhget_pw];rfl) rfl ?_
   simp only[hhset_pw,List.set_cons_succ,List.set_cons_zero,List.append_assoc,List.cons_append,List.nil_append,List.length_append,List.length_cons,List.length_nil,Nat.zero_add,Nat.reduceAdd,hlength_pw]
   refine ARun.loopJ (Tryz.envOK (S:=S) 106 Tryz.ord20 fs0 fs0_ok) (α:=List Tn×List Int) (fun a=>n.toNat-a.1.length)
    (fun a τ=>(∃s j,τ=pw σ p s++(rosC 0 0 0 0 (.list .full 0 []) (.list .full 0 []):: .cells [.list .full 0 [],.list .full 0 []]::rosC hands skill mn mx (.list (.own (σ.length+5)) 2 (Z.map Sg.av)) (.list (.own (σ.length+6)) 6 (a.1.map Tn.av)):: .cells [.list (.own (σ.length+4)) 1 (L.map (.int .i64)),.list (.own (σ.length+7)) 1 (a.2.map (.int .i64))]:: .tail L.length 1:: .tail Z.length 2:: .tail a.1.length 6:: .tail a.2.length 1::j))∧(a.1.length:Int)≤n∧a.2.length=a.1.length∧∀i (h:i<a.1.length) (h':i<a.2.length),TrueT ⟨hands,skill,mn,mx,Z,[]⟩ L w a.1[i] a.2[i])
    (fun a=>[(15,.int .i64 (n- (a.1.length:Int)))]) ([],[]) (by kernel_rfl) (by simp[upd,ins,subF,lookA]) ⟨⟨s8,[],by simp[rosC]⟩,by simp;omega,rfl,by simp⟩ ?_
   rintro⟨X,B⟩ τ ⟨⟨s9,j,rfl⟩,hX1,hX2,hX3⟩ ih
   simp only[rosC] at ih hX1 hX2 hX3⊢
   by_cases hlt:0<n- (X.length:Int)
   ·have hlt':(0<n- (X.length:Int))=True:=eq_true hlt
    have hwm:IntKind.i64.wrap (n- (X.length:Int)-1)=n- (X.length:Int)-1:=wrap64 (by omega) (by omega)
    simp -implicitDefEqProofs (maxSteps:=9^9) (disch:=omega) only[go_sem,simprocAttr,hlength_pw,hhget_pw0,hhget_pw,hhset_pw0,hhset_pw,hlt']
    refine ACalls.weaken (l':=[.ptr p 0,(⟨hands,skill,mn,mx,Z,X⟩: Ros).av,truAV L B,.int .i64 w]) ⟨rfl,⟨rfl,rfl,rfl,rfl,⟨rfl,.inl rfl,.inl rfl⟩,⟨rfl,.inl rfl,.inl rfl⟩,trivial⟩,⟨⟨rfl,.inl rfl,.inl rfl⟩,⟨rfl,.inl rfl,.inl rfl⟩,trivial⟩,rfl,trivial⟩ ?_
    refine tunedOf_c p ⟨hands,skill,mn,mx,Z,X⟩ L B w hw (by simp only;omega) (by simp only;omega) (by simp only;omega) (fun z hz=>by have:=hL2 z hz;omega) (by simp only;omega) _ (hp.pw _).app1 _ fun s10 x b junk hT=>?_
    rw[hpw_pwa hpl,List.append_assoc]
    have hxav:x.av= .agg x.cells:=rfl
    simp only[hxav,Tn.cells]
    simp -implicitDefEqProofs (maxSteps:=9^9) (disch:=omega) only[go_sem,simprocAttr,hlength_pw,hhget_pw0,hhget_pw,hhset_pw0,hhset_pw,hX2,hwm]
    refine(ih (X++[x],B++[b]) _ (by simp only[List.length_append,List.length_singleton];omega) ⟨⟨s10,j++junk++[.cells x.cells],rfl⟩,by simp only[List.length_append,List.length_singleton];omega,by simp[hX2],fun i g1 g2=>?_⟩).castS (by simp[hX2,hxav,Tn.cells]) (by simp[upd,ins,subF,lookA];omega)
    simp only at g1 g2⊢
    rw[List.length_append,List.length_singleton] at g1 g2
    rw[List.getElem_append,List.getElem_append]
    split<;> split
    ·exact hX3 i (by assumption) (by assumption)
    ·omega
    ·omega
    ·simp only[List.getElem_singleton]
     exact hT.congr rfl rfl rfl
   ·have hlt':(0<n- (X.length:Int))=False:=eq_false hlt
    simp -implicitDefEqProofs (maxSteps:=9^9) (disch:=omega) only[go_sem,simprocAttr,hlength_pw,hhget_pw0,hhget_pw,hhset_pw0,hhset_pw,hlt']
    have hT:TrueR H E w ⟨hands,skill,mn,mx,Z,X⟩ L B:=⟨hhd,hsk,hmn,hmx,hLl,hL2,hZl,hZ2,(show(X.length:Int)≤E by omega),hX2,fun i g1 g2=>(hX3 i g1 g2).congr rfl rfl rfl⟩
    exact⟨_,wk_weak (by simp[wk,wkL,wk1,wk0,Ros.av,truAV,ints1]),h _ _ _ _ _ hT⟩
def Ros.avv(r:Ros)(a n:Nat):AV:= .agg [.int .i64 r.hands,.int .i64 r.skill,.int .i64 r.mn,.int .i64 r.mx,.list .no 2 (r.sets.map Sg.av),.vec a n]
structure RaO(r:Ros)(ds:List (List Int))(s:Nat)(M:Nat→Prop)(q rr ry rs rn:Nat)(τ:List AObj):Prop where
 r1:hget τ rr=some (.cells (r.wcells ds))
 y1:hget τ ry=some (.cells [.yield q])
 s1:hget τ rs=some (.cells [.int .u64 s])
 n1:hget τ rn=some (.cells [.fn (.func 200) [] [.ptr rr 0,.ptr ry 0,.ptr rs 0,.ptr rn 0]])
 m:¬M rr∧¬M ry∧¬M rs∧¬M rn
theorem RaO.same{r:Ros}{ds:List (List Int)}{s:Nat}{M:Nat→Prop}{q rr ry rs rn:Nat}{τ τ':List AObj}(h:RaO r ds s M q rr ry rs rn τ)(hs:Same M τ τ'):RaO r ds s M q rr ry rs rn τ':=
 ⟨hs.get h.r1 h.m.1,hs.get h.y1 h.m.2.1,hs.get h.s1 h.m.2.2.1,hs.get h.n1 h.m.2.2.2,h.m⟩
theorem rnext_c(r:Ros)(ds:List (List Int))(hr:r.Head)(s:Nat)(hs:s<16):∀(m:Nat) (x:List Int) (a:Nat),x.length=4→(a:Int)+m=r.hands→∀{q rr ry rs rn:Nat} {L:List AV} (T:Taker S q L) {τ:List AObj} (D Rest:List AV),RaO r ds s T.M q rr ry rs rn τ→T.C D τ→L=D++(allR r s m x a).map rtv++Rest→
  ACalls S 200 [rtv x,.int .i64 a,.ptr rr 0,.ptr ry 0,.ptr rs 0,.ptr rn 0] τ (GiveN T τ (D++(allR r s m x a).map rtv)):=by
 intro m
 have hmn:=hr.mn
 have hhd:=hr.hands
 induction m with
 | zero=>
  intro x a hx ha q rr ry rs rn L T τ D Rest hT hC hL
  refine AcE (Tryz.envOK (S:=S) 52 (fun _=>([],[])) fs403 fs403_ok) Tryz.kp200 Tryz.func200 rfl ?_
  have q1:∀l,hget (τ++l) rr=some (.cells (r.wcells ds)):=fun l=>by rw[hget_app (hget_lt hT.r1)];exact hT.r1
  have q3:∀l,hget (τ++l) ry=some (.cells [.yield q]):=fun l=>by rw[hget_app (hget_lt hT.y1)];exact hT.y1
  simp only[allR] at hL⊢
  have hx4:(4≤x.length)=True:=by rw[hx];simp
  have htk:List.take 4 (x.map (AV.int .i64))=x.map (AV.int .i64):=List.take_of_length_le (by rw[List.length_map,hx];omega)
  have ha':(a:Int)=r.hands:=by omega
  simp only[rtv]
  simp -implicitDefEqProofs (maxSteps:=9^9) (disch:=omega) only[go_sem,simprocAttr,q1,q3,Ros.wcells,ha',hx4,htk]
  refine(T.take (D:=D) (R:=Rest) (by rw[hL];simp[rtv]) (T.keep hC (SameOn.app fun q hq=>T.lt hC hq))).mono fun v τ' hv=>?_
  rcases hv with⟨h1,⟨rfl,h2⟩ | ⟨rfl,h2⟩⟩
  ·simp -implicitDefEqProofs (maxSteps:=9^9) (disch:=omega) only[go_sem,simprocAttr]
   exact⟨Same.app.trans h1,.inl ⟨rfl,h2⟩⟩
  ·simp -implicitDefEqProofs (maxSteps:=9^9) (disch:=omega) only[go_sem,simprocAttr]
   exact⟨Same.app.trans h1,.inr ⟨rfl,D,rtv x,Rest,by rw[hL];simp,h2⟩⟩
 | succ m ih=>
  intro x a hx ha q rr ry rs rn L T τ D Rest hT hC hL
  have hane:((a:Int)=r.hands)=False:=by simp;omega
  have ha4:(a:Int)<4:=by omega
  refine AcE (Tryz.envOK (S:=S) 52 (fun _=>([],[])) fs403 fs403_ok) Tryz.kp200 Tryz.func200 rfl ?_
  have q1:∀l,hget (τ++l) rr=some (.cells (r.wcells ds)):=fun l=>by rw[hget_app (hget_lt hT.r1)];exact hT.r1
  have q2:∀l,hget (τ++l) rs=some (.cells [.int .u64 s]):=fun l=>by rw[hget_app (hget_lt hT.s1)];exact hT.s1
  have q4:∀l,hget (τ++l) rn=some (.cells [.fn (.func 200) [] [.ptr rr 0,.ptr ry 0,.ptr rs 0,.ptr rn 0]]):=fun l=>by rw[hget_app (hget_lt hT.n1)];exact hT.n1
  have hwa:IntKind.i64.wrap ((a:Int)+1)=((a+1:Nat):Int):=by rw[wrap64 (by omega) (by omega)];rfl
  have hx4:∀z:List Int,z.length=4→(4≤z.length)=True:=fun z hz=>by rw[hz];simp
  have htk:∀z:List Int,z.length=4→List.take 4 (z.map (AV.int .i64))=z.map (AV.int .i64):=fun z hz=>List.take_of_length_le (by rw[List.length_map,hz];omega)
  have hx4x:=hx4 x hx
  have htkx:=htk x hx
  simp only[rtv]
  cases hb:s.testBit a with
  | false=>
   have hall:allR r s (m+1) x a=allR r s m x (a+1):=by simp[allR,hb]
   rw[hall] at hL⊢
   simp -implicitDefEqProofs (maxSteps:=9^9) (disch:=omega) only[go_sem,simprocAttr,q1,q2,q4,Ros.wcells,hane,hb,hwa,hx4x,htkx]
   refine(ih x (a+1) hx (by omega) T D Rest (hT.same Same.app) (T.keep hC (SameOn.app fun q hq=>T.lt hC hq)) hL).mono fun v τ' hv=>?_
   rcases hv with⟨h1,⟨rfl,h2⟩ | ⟨rfl,h2⟩⟩
   ·simp -implicitDefEqProofs (maxSteps:=9^9) (disch:=omega) only[go_sem,simprocAttr]
    exact⟨Same.app.trans h1,.inl ⟨rfl,h2⟩⟩
   ·simp -implicitDefEqProofs (maxSteps:=9^9) (disch:=omega) only[go_sem,simprocAttr]
    exact⟨Same.app.trans h1,.inr ⟨rfl,h2⟩⟩
  | true=>
   have hall:allR r s (m+1) x a=(List.range (r.mx-r.mn+1).toNat).flatMap fun(k:Nat)=>if r.mn+k=0 then[] else allR r s m (setI x a (r.mn+k)) (a+1):=by simp[allR,hb]
   rw[hall] at hL⊢
   simp -implicitDefEqProofs (maxSteps:=9^9) (disch:=omega) only[go_sem,simprocAttr,q1,q2,q4,Ros.wcells,hane,hb,hx4x,htkx]
   refine ARun.forJ (Tryz.envOK (S:=S) 52 (fun _=>([],[])) fs403 fs403_ok) (r.mx-r.mn+1).toNat (fun i σ'=>∃xi:List Int,xi.length=4∧(∀z,setI xi a z=setI x a z)∧hget σ' τ.length=some (.cells (xi.map (AV.int .i64)))∧Same (fun q=>T.M q∨q=τ.length) (τ++[.cells (x.map (AV.int .i64))]) σ'∧T.C (D++((List.range i).flatMap fun(k:Nat)=>if r.mn+k=0 then[] else allR r s m (setI x a (r.mn+k)) (a+1)).map rtv) σ') (fun i=>[(9,.int .i64 (r.mn+i))]) (by kernel_rfl) (by simp[upd,ins,subF,lookA]) ?_ ?_ ?_
   ·exact⟨x,hx,fun _=>rfl,hget_at0,Same.refl,by simpa using T.keep hC (SameOn.app fun q hq=>T.lt hC hq)⟩
   ·rintro i σ' hi ⟨xi,h1,h3,h4,h5,h6⟩ ih'
    have hs1:Same (fun q=>T.M q∨q=τ.length) τ σ':=Same.app.trans h5
    have ho:∀{q o},hget τ q=some o→¬T.M q→hget σ' q=some o:=fun h hm=>hs1.get h (fun h'=>by rcases h' with h' | h';exact hm h';have:=hget_lt h;omega)
    have p1:=ho hT.r1 hT.m.1
    have p5:∀o,hget (hset σ' τ.length o) τ.length=some o:=fun o=>hget_set h4 o
    have p6:∀o,hget (hset σ' τ.length o) rn=some (.cells [.fn (.func 200) [] [.ptr rr 0,.ptr ry 0,.ptr rs 0,.ptr rn 0]]):=fun o=>by rw[hget_ne (by have:=hget_lt hT.n1;omega)];exact ho hT.n1 hT.m.2.2.2
    have hset3:=@putAt_set xi (a:Int) (r.mn+i) (by omega) (by omega)
    rw[h3,Int.toNat_natCast] at hset3
    have hl3:(setI x a (r.mn+i)).length=4:=by rw[setI_len];exact hx
    have hx4s:=hx4 _ hl3
    have htks:=htk _ hl3
    obtain⟨X,hX⟩:=flatMap_part (fun(k:Nat)=>if r.mn+k=0 then[] else allR r s m (setI x a (r.mn+k)) (a+1)) hi
    rw[flatMap_succ] at ih'
    generalize (List.range i).flatMap (fun(k:Nat)=>if r.mn+k=0 then[] else allR r s m (setI x a (r.mn+k)) (a+1))=D0 at h6 hX ih'
    have hle:r.mn+i≤r.mx:=by omega
    have hlen':τ.length<σ'.length:=hget_lt h4
    have hMt:¬T.M τ.length:=fun h=>by have:=T.lt hC h;omega
    have hs2:Same (fun q=>T.M q∨q=τ.length) τ (hset σ' τ.length (.cells ((setI x a (r.mn+i)).map (AV.int .i64)))):=hs1.trans ⟨by rw[length_hset];omega,fun q hq hm=>by rw[hget_ne (by omega)]⟩
    have ho2:∀{q o},hget τ q=some o→¬T.M q→hget (hset σ' τ.length (.cells ((setI x a (r.mn+i)).map (AV.int .i64)))) q=some o:=fun h hm=>hs2.get h (fun h'=>by rcases h' with h' | h';exact hm h';have:=hget_lt h;omega)
    have hk6:T.C (D++D0.map rtv) (hset σ' τ.length (.cells ((setI x a (r.mn+i)).map (AV.int .i64)))):=T.keep h6 ⟨by rw[length_hset];omega,fun q hq=>hget_ne (fun e=>hMt (e▸hq))⟩
    have hsame:Same (fun q=>T.M q∨q=τ.length) (τ++[.cells (x.map (AV.int .i64))]) (hset σ' τ.length (.cells ((setI x a (r.mn+i)).map (AV.int .i64)))):=h5.trans ⟨by rw[length_hset];omega,fun q hq hm=>by rw[hget_ne (by omega)]⟩
    by_cases hz:r.mn+i=0
    ·have hz':(r.mn+i=0)=True:=eq_true hz
     simp only[if_pos hz,List.append_nil] at ih'
     clear hX hL hs2 ho2
     simp -implicitDefEqProofs (maxSteps:=9^9) (disch:=omega) only[go_sem,simprocAttr,p1,Ros.wcells,h4,p5,p6,h1,h3,hz',hx4s,htks,hset3]
     refine(ih' _ ⟨setI x a (r.mn+i),hl3,fun z=>setI_setI,hget_set h4 _,hsame,hk6⟩).castS rfl (by simp[upd,ins,subF,lookA,Int.add_assoc])
    ·have hz':(r.mn+i=0)=False:=eq_false hz
     simp only[if_neg hz] at ih' hX
     simp -implicitDefEqProofs (maxSteps:=9^9) (disch:=omega) only[go_sem,simprocAttr,p1,Ros.wcells,h4,p5,p6,h1,h3,hz',hwa,hx4s,htks,hset3]
     refine(ih (setI x a (r.mn+i)) (a+1) hl3 (by omega) T (D++D0.map rtv) (X.map rtv++Rest) ⟨ho2 hT.r1 hT.m.1,ho2 hT.y1 hT.m.2.1,ho2 hT.s1 hT.m.2.2.1,ho2 hT.n1 hT.m.2.2.2,hT.m⟩ hk6 (by rw[hL,hX];simp)).mono fun v τ' hv=>?_
     have hsf:Same (fun q=>T.M q∨q=τ.length) (hset σ' τ.length (.cells ((setI x a (r.mn+i)).map (AV.int .i64)))) τ':=⟨hv.1.1,fun q hq hm=>hv.1.2 q hq (fun h=>hm (.inl h))⟩
     rcases hv with⟨g1,⟨rfl,g2⟩ | ⟨rfl,g2⟩⟩
     ·simp -implicitDefEqProofs (maxSteps:=9^9) (disch:=omega) only[go_sem,simprocAttr]
      refine(ih' τ' ⟨setI x a (r.mn+i),hl3,fun z=>setI_setI,?_,hsame.trans hsf,by simpa using g2⟩).castS rfl (by simp[upd,ins,subF,lookA,Int.add_assoc])
      rw[g1.2 _ (by rw[length_hset];exact hlen') hMt];exact hget_set h4 _
     ·simp -implicitDefEqProofs (maxSteps:=9^9) (disch:=omega) only[go_sem,simprocAttr]
      refine⟨⟨by have:=g1.1;rw[length_hset] at this;have:=hs1.1;omega,fun q hq hm=>?_⟩,.inr ⟨rfl,g2⟩⟩
      rw[g1.2 q (by rw[length_hset];have:=hs1.1;omega) hm,hs2.2 q hq (fun h=>by rcases h with h | h;exact hm h;omega)]
   ·rintro σ' ⟨xi,h1,h3,h4,h5,h6⟩
    have hs1:Same (fun q=>T.M q∨q=τ.length) τ σ':=Same.app.trans h5
    have ho:∀{q o},hget τ q=some o→¬T.M q→hget σ' q=some o:=fun h hm=>hs1.get h (fun h'=>by rcases h' with h' | h';exact hm h';have:=hget_lt h;omega)
    have p1:=ho hT.r1 hT.m.1
    simp -implicitDefEqProofs (maxSteps:=9^9) (disch:=omega) only[go_sem,simprocAttr,p1,Ros.wcells]
    exact⟨⟨hs1.1,fun q hq hm=>hs1.2 q hq (fun h=>by rcases h with h | h;exact hm h;omega)⟩,.inl ⟨rfl,h6⟩⟩
end Go.Proofs
