/- Texts of a proof: lemmas. -/
import Derived.Test.YtgbdndlmdklefaaGreatEK38
import Derived.Test.YtgbdndlmdklefaaGreatEK37
import Derived.Test.YtgbdndlmdklefaaGreatEK36
set_option linter.unusedSimpArgs false
set_option linter.unusedVariables false
set_option maxRecDepth 100000
set_option maxHeartbeats 40000000
namespace Go.Proofs
open Go Go.Mu Go.Ins
variable {S:MC Tryz.prog}
theorem rsince_p(r:Ros)(hl:r.sets.length≤4)(h d:Int)(hd:0≤d∧d≤60):PureV S 100 [r.av,.int .i64 h,.int .i64 d] (.int .i64 (fromL r.sets h d)):=by
 refine PvE (Tryz.envOK (S:=S) 43 (fun _=>([],[])) fs420 fs420_ok) (.int) Tryz.kp100 Tryz.func100 rfl ?_
 intro σ
 obtain⟨hands,skill,mn,mx,sets,ents⟩:=r
 simp only[Ros.av] at hl⊢
 simp -implicitDefEqProofs (maxSteps:=9^9) (disch:=omega) only[go_sem,simprocAttr]
 refine ARun.forS (Tryz.envOK (S:=S) 43 (fun _=>([],[])) fs420 fs420_ok) sets.length (fun _=>True) (fun i=>[(7,.int .i64 ((sets.take i).foldl (setF h d) 0)),(8,.int .i64 i)]) (fun _ _=>σ++[.cells [.int .i64 hands,.int .i64 skill,.int .i64 mn,.int .i64 mx,.list .no 2 (sets.map Sg.av),.list .no 6 (ents.map Tn.av)]]) [] (by kernel_rfl) (by simp) (by simp[upd,ins,subF,lookA]) trivial ?_ ?_
 ·intro i j hi _ ih
  rw[take_foldl hi] at ih
  have hidx:idx (sets.map Sg.av) (i:Int)=some (Sg.av sets[i]):=idx_nat hi
  have hwi:IntKind.i64.wrap ((i:Int)+1)=((i+1:Nat):Int):=by rw[wrap64 (by omega) (by omega)];rfl
  obtain⟨f1,f2⟩:=@from_in h d (sets.take i) 0 (Int.le_refl 0) hd.1
  generalize (sets.take i).foldl (setF h d) 0=m at *
  generalize sets[i]=s at *
  simp only[Sg.av] at hidx
  by_cases p1:s.hand=h
  ·by_cases p2:s.day≤d
   ·have p1':(s.hand=h)=True:=eq_true p1
    have p2':(s.day≤d)=True:=eq_true p2
    simp -implicitDefEqProofs (maxSteps:=9^9) (disch:=omega) only[go_sem,simprocAttr,hidx,p1',p2',hwi]
    exact(ih trivial []).castS rfl (by simp[upd,ins,subF,lookA,setF,p1,p2])
   ·have p1':(s.hand=h)=True:=eq_true p1
    have p2':(s.day≤d)=False:=eq_false p2
    simp -implicitDefEqProofs (maxSteps:=9^9) (disch:=omega) only[go_sem,simprocAttr,hidx,p1',p2',hwi]
    exact(ih trivial []).castS rfl (by simp[upd,ins,subF,lookA,setF,p1,p2])
  ·have p1':(s.hand=h)=False:=eq_false p1
   simp -implicitDefEqProofs (maxSteps:=9^9) (disch:=omega) only[go_sem,simprocAttr,hidx,p1',hwi]
   exact(ih trivial []).castS rfl (by simp[upd,ins,subF,lookA,setF,p1])
 ·intro j _
  rw[List.take_length]
  simp -implicitDefEqProofs (maxSteps:=9^9) (disch:=omega) only[go_sem,simprocAttr]
  rfl
theorem roff_p(r:Ros)(hl:r.sets.length≤4)(h d n:Int)(hd:0≤d∧d≤60)(hn: -5≤n∧n≤5):PureV S 145 [r.av,.int .i64 h,.int .i64 d,.int .i64 n] (.int .i64 (n*(d-fromL r.sets h d))):=by
 have hs:=rsince_p (S:=S) r hl h d hd
 have hf:=@fromL_in r.sets h d hd.1
 have hb: -300≤n*(d-fromL r.sets h d)∧n*(d-fromL r.sets h d)≤300:=by
  generalize fromL r.sets h d=a at *
  have h3:0≤d-a∧d-a≤60:=by omega
  generalize d-a=b at *
  rcases(by omega:n= -5∨n= -4∨n= -3∨n= -2∨n= -1∨n=0∨n=1∨n=2∨n=3∨n=4∨n=5) with rfl | rfl | rfl | rfl | rfl | rfl | rfl | rfl | rfl | rfl | rfl<;> omega
 refine PvE (Tryz.envOK (S:=S) 17 (fun _=>([],[])) fs420 fs420_ok) (.int) Tryz.kp145 Tryz.func145 rfl ?_
 intro σ
 obtain⟨hands,skill,mn,mx,sets,ents⟩:=r
 simp only[Ros.av] at hs hf hb⊢
 generalize fromL sets h d=a at *
 have hw1:IntKind.i64.wrap (d-a)=d-a:=wrap64 (by omega) (by omega)
 have hw2:IntKind.i64.wrap (n*(d-a))=n*(d-a):=wrap64 (by omega) (by omega)
 clear hb
 simp -implicitDefEqProofs (maxSteps:=9^9) (disch:=omega) only[go_sem,simprocAttr]
 refine hs _ _ ?_
 simp -implicitDefEqProofs (maxSteps:=9^9) (disch:=omega) only[go_sem,simprocAttr,hw1,hw2]
def rTun(r:Ros)(t:Tn)(x:Rng)(h n:Int):Bool:=decide (t.hand<0∨t.hand=h)&&decide (x.lo-r.skill≤n*(t.day-fromL r.sets h t.day)∧n*(t.day-fromL r.sets h t.day)≤x.hi+r.skill)
theorem rtunes_p(r:Ros)(hl:r.sets.length≤4)(hsk:0≤r.skill∧r.skill≤9)(t:Tn)(hd:0≤t.day∧t.day≤60)(x:Rng)(hx:(-2000000≤x.lo∧x.lo≤2000000)∧ -2000000≤x.hi∧x.hi≤2000000)(h n:Int)(hn: -5≤n∧n≤5) :
  PureV S 113 [r.av,t.av,x.av,.int .i64 h,.int .i64 n] (.bool (rTun r t x h n)):=by
 have ho:=roff_p (S:=S) r hl h t.day n hd hn
 refine PvE (Tryz.envOK (S:=S) 41 (fun _=>([],[])) fs420 fs420_ok) (.bool) Tryz.kp113 Tryz.func113 rfl ?_
 intro σ
 unfold rTun
 obtain⟨hands,skill,mn,mx,sets,ents⟩:=r
 obtain⟨day,hand,due,ear⟩:=t
 obtain⟨sl,ts,rs⟩:=ear
 simp only[Ros.av,Tn.av,Tn.cells,Rng.av] at ho hsk hd⊢
 generalize n*(day-fromL sets h day)=o at *
 have hw1:IntKind.i64.wrap (x.lo-skill)=x.lo-skill:=wrap64 (by omega) (by omega)
 have hw2:IntKind.i64.wrap (x.hi+skill)=x.hi+skill:=wrap64 (by omega) (by omega)
 clear hx hl
 simp -implicitDefEqProofs (maxSteps:=9^9) (disch:=omega) only[go_sem,simprocAttr]
 refine ho _ _ ?_
 by_cases c1:hand<0
 ·have c1':(hand<0)=True:=eq_true c1
  simp -implicitDefEqProofs (maxSteps:=9^9) (disch:=omega) only[go_sem,simprocAttr,c1',hw1,hw2]
  simp[c1]
  exact fun h1 h2=>⟨h1,h2⟩
 ·have c1':(hand<0)=False:=eq_false c1
  by_cases c2:hand=h
  ·have c2':(hand=h)=True:=eq_true c2
   simp -implicitDefEqProofs (maxSteps:=9^9) (disch:=omega) only[go_sem,simprocAttr,c1',c2',hw1,hw2]
   simp[c2]
   exact fun h1 h2=>⟨h1,h2⟩
  ·have c2':(hand=h)=False:=eq_false c2
   simp -implicitDefEqProofs (maxSteps:=9^9) (disch:=omega) only[go_sem,simprocAttr,c1',c2',hw1,hw2]
/-! Rosters and entries, read out of values. -/
def decSg:AV→Option Sg
 | .agg [.int .i64 h,.int .i64 d]=>some ⟨h,d⟩
 | _=>none
theorem decSg_inv(a:AV)(x:Sg)(h:decSg a=some x):a=x.av:=by
 unfold decSg at h;split at h
 ·simp at h;subst h;rfl
 ·cases h
theorem decSg_av(x:Sg):decSg x.av=some x:=rfl
def decTn0:AV→Option Tn
 | .agg [.int .i64 d,.int .i64 h,.int .i64 u,.int .i64 s,.list .no 2 xs,.list .no 6 ys]=>(decs decRng xs).bind fun x=>(decs decRd ys).bind fun y=>some ⟨d,h,u,⟨s,x,y⟩⟩
 | _=>none
theorem decTn0_inv(a:AV)(x:Tn)(h:decTn0 a=some x):a=x.av:=by
 unfold decTn0 at h;split at h
 ·obtain⟨x1,h1,h⟩:=Option.bind_eq_some_iff.1 h
  obtain⟨x2,h2,h⟩:=Option.bind_eq_some_iff.1 h
  simp at h;subst h
  rw[decs_inv decRng_inv h1,decs_inv decRd_inv h2];rfl
 ·cases h
theorem decTn0_av(x:Tn):decTn0 x.av=some x:=by
 obtain⟨d,h,u,s,ts,rs⟩:=x
 simp only[Tn.av,Tn.cells,decTn0,decs_map decRng_av,decs_map decRd_av,Option.bind_some]
def decTn:AV→Option Tn
 | .agg [.int .i64 d,.int .i64 h,.int .i64 u,.int .i64 s,a,b]=>(decL 2 decRng a).bind fun x=>(decL 6 decRd b).bind fun y=>some ⟨d,h,u,⟨s,x,y⟩⟩
 | _=>none
theorem decTn_inv(a:AV)(x:Tn)(h:decTn a=some x):wk a x.av:=by
 unfold decTn at h;split at h
 ·obtain⟨x1,h1,h⟩:=Option.bind_eq_some_iff.1 h
  obtain⟨x2,h2,h⟩:=Option.bind_eq_some_iff.1 h
  simp at h;subst h
  exact⟨rfl,rfl,rfl,rfl,decL_inv decRng_inv h1,decL_inv decRd_inv h2,trivial⟩
 ·cases h
def decRos:AV→Option Ros
 | .agg [.int .i64 h,.int .i64 s,.int .i64 m,.int .i64 n,a,b]=>(decL 2 decSg a).bind fun x=>(decL 6 decTn0 b).bind fun y=>some ⟨h,s,m,n,x,y⟩
 | _=>none
theorem decRos_inv(a:AV)(x:Ros)(h:decRos a=some x):wk a x.av:=by
 unfold decRos at h;split at h
 ·obtain⟨x1,h1,h⟩:=Option.bind_eq_some_iff.1 h
  obtain⟨x2,h2,h⟩:=Option.bind_eq_some_iff.1 h
  simp at h;subst h
  exact⟨rfl,rfl,rfl,rfl,decL_inv decSg_inv h1,decL_inv decTn0_inv h2,trivial⟩
 ·cases h
def tTn:Ty Tn:=⟨decTn,Tn.av,fun{a x} h=>decTn_inv a x h⟩
def tRos:Ty Ros:=⟨decRos,Ros.av,fun{a x} h=>decRos_inv a x h⟩
theorem tTn_dec{a:AV}:tTn.dec a=decTn a:=rfl
theorem tRos_dec{a:AV}:tRos.dec a=decRos a:=rfl
theorem decL_sg{t:Tok}{l:List Sg}:decL 2 decSg (.list t 2 (l.map Sg.av))=some l:=decL_self decSg_av
theorem decL_tn{t:Tok}{l:List Tn}:decL 6 decTn0 (.list t 6 (l.map Tn.av))=some l:=decL_self decTn0_av
def spec5{α β γ δ ε:Type}(A:Ty α)(B:Ty β)(C:Ty γ)(D:Ty δ)(E:Ty ε)(f:α→β→γ→δ→ε→Option AV):List AV→Option AV
 | [a,b,c,d,e]=>(A.dec a).bind fun x=>(B.dec b).bind fun y=>(C.dec c).bind fun z=>(D.dec d).bind fun u=>(E.dec e).bind fun v=>f x y z u v
 | _=>none
theorem spec5_ok{α β γ δ ε:Type}{P:Program}{S:MC P}{n:FuncId}{A:Ty α}{B:Ty β}{C:Ty γ}{D:Ty δ}{E:Ty ε}{f:α→β→γ→δ→ε→Option AV}(h:∀x y z u v w,f x y z u v=some w→PureV S n [A.av x,B.av y,C.av z,D.av u,E.av v] w):∀xs w,spec5 A B C D E f xs=some w→PureV S n xs w:=by
 intro xs w e
 unfold spec5 at e
 split at e
 ·obtain⟨x,h1,e⟩:=Option.bind_eq_some_iff.1 e
  obtain⟨y,h2,e⟩:=Option.bind_eq_some_iff.1 e
  obtain⟨z,h3,e⟩:=Option.bind_eq_some_iff.1 e
  obtain⟨u,h4,e⟩:=Option.bind_eq_some_iff.1 e
  obtain⟨v,h5,e⟩:=Option.bind_eq_some_iff.1 e
  exact PureV.weaken (l':=[A.av x,B.av y,C.av z,D.av u,E.av v]) ⟨A.inv h1,B.inv h2,C.inv h3,D.inv h4,E.inv h5,trivial⟩ (h x y z u v w e)
 ·cases e
attribute [go_sem] tTn_dec tRos_dec decTn decRos decL_sg decL_tn spec5
def TunOK(r:Ros)(t:Tn)(x:Rng)(n:Int):Prop:=(r.sets.length≤4∧(0≤r.skill∧r.skill≤9))∧(0≤t.day∧t.day≤60)∧((-2000000≤x.lo∧x.lo≤2000000)∧ -2000000≤x.hi∧x.hi≤2000000)∧ -5≤n∧n≤5
instance (r:Ros)(t:Tn)(x:Rng)(n:Int):Decidable (TunOK r t x n):=by unfold TunOK;infer_instance
def rtun_s:=spec5 tRos tTn tRng tI tI fun r t x h n=>if TunOK r t x n then some (.bool (rTun r t x h n)) else none
theorem rtun_ok:∀xs v,rtun_s xs=some v→PureV S 113 xs v:=
 spec5_ok fun r t x h n v e=>by
  have e:=someIf e
  rw[← e.2]
  exact rtunes_p r e.1.1.1 e.1.1.2 t e.1.2.1 x e.1.2.2.1 h n e.1.2.2.2
theorem rhas_p(l:List Int)(hl:l.length≤1000000)(n:Int):PureV S 153 [ints1 l,.int .i64 n] (.bool (l.contains n)):=by
 refine PvE (Tryz.envOK (S:=S) 18 (fun _=>([],[])) fs0 fs0_ok) (.bool) Tryz.kp153 Tryz.func153 rfl ?_
 intro σ
 simp only[ints1]
 simp -implicitDefEqProofs (maxSteps:=9^9) (disch:=omega) only[go_sem,simprocAttr]
 refine ARun.forS (Tryz.envOK (S:=S) 18 (fun _=>([],[])) fs0 fs0_ok) l.length (fun i=>(l.take i).contains n=false) (fun i=>[(5,.int .i64 i)]) (fun _ _=>σ) [] (by kernel_rfl) rfl (by simp[upd,ins,subF,lookA]) (by simp) ?_ ?_
 ·intro i j hi hp ih
  have hidx:idx (l.map (AV.int .i64)) (i:Int)=some (.int .i64 l[i]):=idx_nat hi
  have hwi:IntKind.i64.wrap ((i:Int)+1)=((i+1:Nat):Int):=by rw[wrap64 (by omega) (by omega)];rfl
  have hst:(l.take (i+1)).contains n=((l.take i).contains n||(n==l[i])):=by
   rw[List.take_succ_eq_append_getElem hi,Bool.eq_iff_iff,Bool.or_eq_true,List.contains_iff_mem,List.contains_iff_mem,beq_iff_eq,List.mem_append,List.mem_singleton]
  rw[hst,hp,Bool.false_or] at ih
  have hmem:l[i]=n→l.contains n=true:=fun e=>by rw[← e];simp
  generalize l[i]=m at *
  by_cases c:m=n
  ·have c':(m=n)=True:=eq_true c
   simp -implicitDefEqProofs (maxSteps:=9^9) (disch:=omega) only[go_sem,simprocAttr,hidx,c']
   simpa using hmem c
  ·have c':(m=n)=False:=eq_false c
   simp -implicitDefEqProofs (maxSteps:=9^9) (disch:=omega) only[go_sem,simprocAttr,hidx,c',hwi]
   exact(ih (by simpa using fun e=>c e.symm) []).castS rfl (by simp[upd,ins,subF,lookA])
 ·intro j hp
  rw[List.take_length] at hp
  rw[hp]
  simp -implicitDefEqProofs (maxSteps:=9^9) (disch:=omega) only[go_sem,simprocAttr]
def fs421(f:FuncId)(xs:List AV):Option AV:=if f=113 then rtun_s xs else fs420 f xs
theorem fs421_ok{S:MC Tryz.prog}:∀f xs v,fs421 f xs=some v→PureV S f xs v:=by
 intro f xs v h
 unfold fs421 at h
 split at h
 ·rename_i e;subst e;exact rtun_ok _ _ h
 exact fs420_ok _ _ _ h
attribute [go_sem] fs421 rtun_s
def rEnt1(r:Ros)(t:Tn)(d:Rng)(x:List Int):Bool:=(List.range r.hands.toNat).any fun(h:Nat)=>rTun r t d h (tg x h)
def rExpl(r:Ros)(D:List Rng)(x:List Int):Bool:=(List.range r.ents.length).all fun i=>rEnt1 r (r.ents.getD i default) (D.getD i default) x
theorem rexplained_p(r:Ros)(hr:r.Head)(hdy:∀t∈r.ents,0≤t.day∧t.day≤60)(D:List Rng)(hD:D.length=r.ents.length)(hDb:∀d∈D,(-2000000≤d.lo∧d.lo≤2000000)∧ -2000000≤d.hi∧d.hi≤2000000)(x:List Int)(hx:(x.length:Int)=r.hands)(hxb:∀n∈x, -5≤n∧n≤5) :
  PureV S 152 [r.av,.list .no 2 (D.map Rng.av),ints1 x] (.bool (rExpl r D x)):=by
 refine PvE (Tryz.envOK (S:=S) 44 Tryz.ord152 fs421 fs421_ok) (.bool) Tryz.kp152 Tryz.func152 rfl ?_
 intro σ
 have hh:=hr.hands
 have hsk:=hr.skill
 have hsl:=hr.setl
 have hel:=hr.entl
 obtain⟨hands,skill,mn,mx,sets,ents⟩:=r
 simp only[Ros.av,ints1] at hdy hD hx hh hsk hsl hel⊢
 simp -implicitDefEqProofs (maxSteps:=9^9) (disch:=omega) only[go_sem,simprocAttr]
 refine ARun.forS (Tryz.envOK (S:=S) 44 Tryz.ord152 fs421 fs421_ok) ents.length (fun i=>((List.range i).all fun i=>rEnt1 ⟨hands,skill,mn,mx,sets,ents⟩ (ents.getD i default) (D.getD i default) x)=true) (fun i=>[(7,.int .i64 i)]) (fun _ _=>σ++[.cells [.int .i64 hands,.int .i64 skill,.int .i64 mn,.int .i64 mx,.list .no 2 (sets.map Sg.av),.list .no 6 (ents.map Tn.av)]]) [] (by kernel_rfl) (by simp) (by simp[upd,ins,subF,lookA]) (by simp) ?_ ?_
 ·intro i j hi hp ih
  have hidx:idx (ents.map Tn.av) (i:Int)=some (Tn.av ents[i]):=idx_nat hi
  have hidd:idx (D.map Rng.av) (i:Int)=some (Rng.av (D[i]'(by omega))):=idx_nat (by omega)
  have hwi:IntKind.i64.wrap ((i:Int)+1)=((i+1:Nat):Int):=by rw[wrap64 (by omega) (by omega)];rfl
  have hti:=hdy _ (List.getElem_mem hi)
  have hdi:=hDb _ (List.getElem_mem (l:=D) (n:=i) (by omega))
  have hge:ents.getD i default=ents[i]:=by simp[List.getD,List.getElem?_eq_getElem hi]
  have hgd:D.getD i default=D[i]'(by omega):=by simp[List.getD,List.getElem?_eq_getElem (show i<D.length by omega)]
  have hst:((List.range (i+1)).all fun i=>rEnt1 ⟨hands,skill,mn,mx,sets,ents⟩ (ents.getD i default) (D.getD i default) x)=rEnt1 ⟨hands,skill,mn,mx,sets,ents⟩ (ents.getD i default) (D.getD i default) x:=by
   rw[List.range_succ,List.all_append,hp];simp
  have hall:rEnt1 ⟨hands,skill,mn,mx,sets,ents⟩ (ents.getD i default) (D.getD i default) x=false→rExpl ⟨hands,skill,mn,mx,sets,ents⟩ D x=false:=fun h=>by
   unfold rExpl
   rw[List.all_eq_false]
   exact⟨i,List.mem_range.2 hi,by simpa using h⟩
  rw[hst,hge,hgd] at ih
  rw[hge,hgd] at hall
  clear hst hge hgd
  generalize ents[i]=t at *
  generalize D[i]'(by omega)=d at *
  obtain⟨day,hand,due,ear⟩:=t
  obtain⟨sl,ts,rs⟩:=ear
  simp only[Tn.av,Tn.cells] at hidx hti
  simp only[Rng.av] at hidd
  simp -implicitDefEqProofs (maxSteps:=9^9) (disch:=omega) only[go_sem,simprocAttr]
  refine ARun.forS (Tryz.envOK (S:=S) 44 Tryz.ord152 fs421 fs421_ok) hands.toNat (fun _=>True) (fun h=>[(8,.bool ((List.range h).any fun(h:Nat)=>rTun ⟨hands,skill,mn,mx,sets,ents⟩ ⟨day,hand,due,⟨sl,ts,rs⟩⟩ d h (tg x h))),(9,.int .i64 h)]) (fun _ _=>σ++[.cells [.int .i64 hands,.int .i64 skill,.int .i64 mn,.int .i64 mx,.list .no 2 (sets.map Sg.av),.list .no 6 (ents.map Tn.av)]]) [] (by kernel_rfl) (by simp) (by simp[upd,ins,subF,lookA]) trivial ?_ ?_
  ·intro h j2 hh2 _ ih2
   have hix:idx (x.map (AV.int .i64)) (h:Int)=some (.int .i64 (tg x h)):=idx_tg ⟨by omega,by omega⟩
   have hxh: -5≤tg x h∧tg x h≤5:=by
    have:h<x.length:=by omega
    have e:tg x h=x[h]:=by simp[tg,List.getD_eq_getElem?_getD,List.getElem?_eq_getElem this]
    rw[e];exact hxb _ (List.getElem_mem this)
   have hwh:IntKind.i64.wrap ((h:Int)+1)=((h+1:Nat):Int):=by rw[wrap64 (by omega) (by omega)];rfl
   have hlt:((h:Int)<hands)=True:=eq_true (by omega)
   have hok:TunOK ⟨hands,skill,mn,mx,sets,ents⟩ ⟨day,hand,due,⟨sl,ts,rs⟩⟩ ⟨d.lo,d.hi⟩ (tg x h):=⟨⟨hsl,hsk⟩,hti,hdi,hxh⟩
   have hok':=eq_true hok
   have hst:((List.range (h+1)).any fun(h:Nat)=>rTun ⟨hands,skill,mn,mx,sets,ents⟩ ⟨day,hand,due,⟨sl,ts,rs⟩⟩ d h (tg x h))=(((List.range h).any fun(h:Nat)=>rTun ⟨hands,skill,mn,mx,sets,ents⟩ ⟨day,hand,due,⟨sl,ts,rs⟩⟩ d h (tg x h))||rTun ⟨hands,skill,mn,mx,sets,ents⟩ ⟨day,hand,due,⟨sl,ts,rs⟩⟩ ⟨d.lo,d.hi⟩ h (tg x h)):=by
    rw[List.range_succ,List.any_append];simp
   rw[hst] at ih2
   clear hst hok
   generalize ((List.range h).any fun(h:Nat)=>rTun ⟨hands,skill,mn,mx,sets,ents⟩ ⟨day,hand,due,⟨sl,ts,rs⟩⟩ d h (tg x h))=B at *
   cases B
   ·cases hT:rTun ⟨hands,skill,mn,mx,sets,ents⟩ ⟨day,hand,due,⟨sl,ts,rs⟩⟩ ⟨d.lo,d.hi⟩ h (tg x h)
    ·rw[hT] at ih2
     simp -implicitDefEqProofs (maxSteps:=9^9) (disch:=omega) only[go_sem,simprocAttr,hidx,hidd,hix,hlt,hwh,hok',hT]
     exact(ih2 trivial []).castS rfl (by simp[upd,ins,subF,lookA])
    ·rw[hT] at ih2
     simp -implicitDefEqProofs (maxSteps:=9^9) (disch:=omega) only[go_sem,simprocAttr,hidx,hidd,hix,hlt,hwh,hok',hT]
     exact(ih2 trivial []).castS rfl (by simp[upd,ins,subF,lookA])
   ·simp -implicitDefEqProofs (maxSteps:=9^9) (disch:=omega) only[go_sem,simprocAttr,hidx,hidd,hix,hlt,hwh]
    exact(ih2 trivial []).castS rfl (by simp[upd,ins,subF,lookA])
  ·intro j2 _
   have hge:(((hands.toNat:Nat):Int)<hands)=False:=eq_false (by omega)
   have hE:((List.range hands.toNat).any fun(h:Nat)=>rTun ⟨hands,skill,mn,mx,sets,ents⟩ ⟨day,hand,due,⟨sl,ts,rs⟩⟩ d h (tg x h))=rEnt1 ⟨hands,skill,mn,mx,sets,ents⟩ ⟨day,hand,due,⟨sl,ts,rs⟩⟩ d x:=rfl
   rw[hE]
   generalize rEnt1 ⟨hands,skill,mn,mx,sets,ents⟩ ⟨day,hand,due,⟨sl,ts,rs⟩⟩ d x=B at *
   cases B
   ·simp -implicitDefEqProofs (maxSteps:=9^9) (disch:=omega) only[go_sem,simprocAttr,hge]
    rw[hall rfl]
   ·simp -implicitDefEqProofs (maxSteps:=9^9) (disch:=omega) only[go_sem,simprocAttr,hge,hwi]
    exact(ih rfl []).castS rfl (by simp[upd,ins,subF,lookA])
 ·intro j hp
  have hF:rExpl ⟨hands,skill,mn,mx,sets,ents⟩ D x=true:=hp
  rw[hF]
  simp -implicitDefEqProofs (maxSteps:=9^9) (disch:=omega) only[go_sem,simprocAttr]
end Go.Proofs
namespace Go.Proofs
open Go Go.Mu Go.Ins
theorem any_conv{V:List Int}(hV:V≠[])(ha:V.Pairwise (· < ·))(hc:∀y,tg V 0≤y→y≤tg V ((V.length:Int)-1)→y∈V){due o sk:Int}(hs:0≤sk) :
  ((V.map (· - due)).any fun d=>decide (-sk≤d-o∧d-o≤sk))=decide ((devR (V.map (· - due))).lo-sk≤o∧o≤(devR (V.map (· - due))).hi+sk):=by
 rw[devR_sub hV]
 have hle:=(asc_tg ha (tgl_mem hV)).1
 rw[Bool.eq_iff_iff,List.any_eq_true,decide_eq_true_eq]
 constructor
 ·rintro⟨d,hd,h⟩
  obtain⟨v,hv,rfl⟩:=List.mem_map.1 hd
  have:=asc_tg ha hv
  have h:=of_decide_eq_true h
  simp only
  omega
 ·intro h
  simp only at h
  obtain⟨y,hy1,hy2,hy3⟩:∃y,tg V 0≤y∧y≤tg V ((V.length:Int)-1)∧(-sk≤y-due-o∧y-due-o≤sk):=by
   by_cases c1:o<tg V 0-due
   ·exact⟨tg V 0,by omega,by omega,by omega⟩
   ·by_cases c2:tg V ((V.length:Int)-1)-due<o
    ·exact⟨tg V ((V.length:Int)-1),by omega,by omega,by omega⟩
    ·exact⟨o+due,by omega,by omega,by omega⟩
  exact⟨y-due,List.mem_map.2 ⟨y,hc y hy1 hy2,rfl⟩,decide_eq_true hy3⟩
theorem rTun_byB{r:Ros}(hg:r.Good){i:Nat}(hi:i<r.ents.length)(x:List Int)(h:Nat):byB r (entsL r) x i h=rTun r (r.ents.getD i default) (((entsL r).map devR).getD i default) h (tg x h):=by
 have hge:r.ents.getD i default=r.ents[i]:=by simp[List.getD,List.getElem?_eq_getElem hi]
 have hed:(entsL r).getD i []=(chkE r.ents[i] r.hands).1:=by
  simp[entsL,List.getD_eq_getElem?_getD,List.getElem?_eq_getElem hi]
 have hdd:((entsL r).map devR).getD i default=devR (chkE r.ents[i] r.hands).1:=by
  simp[entsL,List.getD_eq_getElem?_getD,List.getElem?_eq_getElem hi]
 unfold byB rTun
 rw[hge,hed,hdd]
 obtain⟨sl,lo,hi',rds,h1,h2,h3,h4⟩:=hg.one (List.getElem_mem hi)
 rw[h4]
 have hsk:=hg.skill
 by_cases c:0≤r.ents[i].hand∧r.ents[i].hand≠(h:Int)
 ·rw[if_pos c,decide_eq_false (by omega),Bool.false_and]
 ·rw[if_neg c,decide_eq_true (show r.ents[i].hand<0∨r.ents[i].hand=(h:Int) by omega),Bool.true_and]
  exact any_conv h3 (oneV_asc sl lo hi' rds) (fun y g1 g2=>oneV_conv h2 h3 ⟨g1,g2⟩) hsk.1
theorem rExpl_isB{r:Ros}(hg:r.Good)(x:List Int):rExpl r ((entsL r).map devR) x=isB r (entsL r) x:=by
 unfold rExpl isB rEnt1
 rw[Bool.eq_iff_iff,List.all_eq_true,List.all_eq_true]
 refine forall_congr' fun i=>⟨fun h hi=>?_,fun h hi=>?_⟩
 all_goals
  have hi':=List.mem_range.1 hi
  have g:=h hi
  rw[List.any_eq_true] at g⊢
  obtain⟨k,hk,e⟩:=g
  refine⟨k,hk,?_⟩
 ·rw[rTun_byB hg hi'];exact e
 ·rw[← rTun_byB hg hi'];exact e
def rRat(r:Ros)(D:List Rng)(l:List Int):Nat→List Int→List (List Int)
 | 0,b=>if rExpl r D b=true then[b] else[]
 | m+1,b=>if l.contains (b.length:Int) then(List.range (r.mx-r.mn+1).toNat).flatMap fun(k:Nat)=>if r.mn+k=0 then[] else rRat r D l m (b++[r.mn+k]) else rRat r D l m (b++[0])
theorem rRat_len{r:Ros}(hr:r.Head){D:List Rng}{l:List Int}:∀(m:Nat) (b:List Int),(rRat r D l m b).length≤11^m
 | 0,b=>by unfold rRat;split<;> simp
 | m+1,b=>by
  have hm:=hr.mn
  unfold rRat
  split
  ·have key:∀n:Nat,((List.range n).flatMap fun(k:Nat)=>if r.mn+k=0 then[] else rRat r D l m (b++[r.mn+k])).length≤n*11^m:=by
    intro n
    induction n with
    | zero=>simp
    | succ n ih=>
     rw[List.range_succ,List.flatMap_append,List.length_append,Nat.succ_mul]
     have:(([n]:List Nat).flatMap fun(k:Nat)=>if r.mn+k=0 then[] else rRat r D l m (b++[r.mn+k])).length≤11^m:=by
      rw[List.flatMap_singleton]
      split
      ·simp
      ·exact rRat_len hr m _
     omega
   have h1:=key (r.mx-r.mn+1).toNat
   have h2:(r.mx-r.mn+1).toNat≤11:=by omega
   have h3:=Nat.mul_le_mul_right (11^m) h2
   rw[Nat.pow_succ]
   omega
  ·have:=rRat_len hr m (b++[0]) (D:=D) (l:=l)
   have h4:11^m≤11^(m+1):=Nat.pow_le_pow_right (by omega) (by omega)
   omega
/-! The reference's rated is the program's truths (plain). -/
theorem setN_fold:∀(l:List Int) (s:Nat),(∀x∈l,0≤x)→∀i:Nat,(l.foldl (fun s h=>s|||2^h.toNat) s).testBit i=(s.testBit i||l.contains (i:Int))
 | [],s,_,i=>by simp
 | x::l,s,h,i=>by
  have hx:=h x (by simp)
  rw[List.foldl_cons,setN_fold l _ (fun y hy=>h y (by simp[hy])) i,Nat.testBit_or,Nat.testBit_two_pow,List.contains_cons,Bool.or_assoc]
  congr 1
  congr 1
  rw[Bool.eq_iff_iff,decide_eq_true_eq,beq_iff_eq]
  omega
theorem setN_bit{l:List Int}(h:∀x∈l,0≤x)(i:Nat):(setN l).testBit i=l.contains (i:Int):=by
 unfold setN;rw[setN_fold l 0 h i];simp
theorem isB_pad(r:Ros)(ds:List (List Int))(x:List Int):isB r ds (padR x)=isB r ds x:=by
 have e:∀i h,byB r ds (padR x) i h=byB r ds x i h:=fun i h=>by unfold byB offX;rw[padR_tg]
 unfold isB
 simp only[e]
theorem padR_snoc{b:List Int}{v:Int}(h:b.length<4):padR (b++[v])=setI (padR b) (b.length:Int) v:=by
 unfold padR setI
 rw[Int.toNat_natCast,List.set_append_right _ _ (Nat.le_refl _),Nat.sub_self,List.append_assoc,List.length_append,List.length_singleton]
 congr 1
 rw[show 4-b.length=(4- (b.length+1))+1 by omega,List.replicate_succ]
 rfl
theorem padR_zero{b:List Int}(h:b.length<4):padR (b++[0])=padR b:=by
 unfold padR
 rw[List.append_assoc,List.length_append,List.length_singleton,show 4-b.length=(4- (b.length+1))+1 by omega,List.replicate_succ]
 rfl
theorem rRat_all{r:Ros}(hg:r.Good){l:List Int}(hl:∀x∈l,0≤x):∀(m:Nat) (b:List Int),b.length+m=r.hands.toNat→(rRat r ((entsL r).map devR) l m b).map padR=(allR r (setN l) m (padR b) b.length).filter (isB r (entsL r))
 | 0,b,_=>by
  unfold rRat allR
  rw[rExpl_isB hg]
  by_cases h:isB r (entsL r) b=true
  ·rw[if_pos h,List.filter_cons,isB_pad,h];rfl
  ·rw[if_neg h,List.filter_cons,isB_pad,Bool.eq_false_iff.2 h];rfl
 | m+1,b,hm=>by
  have h4:=hg.hands
  unfold rRat allR
  rw[setN_bit hl]
  by_cases h:l.contains (b.length:Int)=true
  ·rw[if_pos h,if_pos h,List.map_flatMap,List.filter_flatMap]
   congr 1
   funext k
   by_cases h0:r.mn+(k:Int)=0
   ·rw[if_pos h0,if_pos h0];rfl
   ·rw[if_neg h0,if_neg h0,rRat_all hg hl m (b++[r.mn+k]) (by simp;omega),padR_snoc (by omega)]
    simp
  ·rw[if_neg h,if_neg h,rRat_all hg hl m (b++[0]) (by simp;omega),padR_zero (by omega)]
   simp
theorem rRat_truths{r:Ros}(hg:r.Good){l:List Int}(hl:∀x∈l,0≤x):(rRat r ((entsL r).map devR) l r.hands.toNat []).map padR=htruthsR r (entsL r) (setN l):=rRat_all hg hl r.hands.toNat [] (by simp)
/-! The reference's fewest (plain). -/
def rlM(r:Ros)(D:List Rng)(m:Nat):List (List Int):=(hcomb r.hands.toNat m 0).filter fun l=>decide (rRat r D l r.hands.toNat []≠[])
def rrM(r:Ros)(D:List Rng)(m:Nat):List (List Int):=(hcomb r.hands.toNat m 0).flatMap fun l=>rRat r D l r.hands.toNat []
def rfewF(r:Ros)(D:List Rng):Nat→Nat→List (List Int)×List (List Int)
 | 0,_=>([],[])
 | n+1,k=>if rlM r D k=[] then rfewF r D n (k+1) else(rlM r D k,rrM r D k)
def rfew(r:Ros):List (List Int)×List (List Int):=rfewF r ((entsL r).map devR) (r.hands.toNat+1) 0
theorem rfewF_none{r:Ros}{D:List Rng}:∀(n k:Nat),(∀j,k≤j→j<k+n→rlM r D j=[])→rfewF r D n k=([],[])
 | 0,_,_=>rfl
 | n+1,k,h=>by
  unfold rfewF
  rw[if_pos (h k (by omega) (by omega))]
  exact rfewF_none n (k+1) fun j h1 h2=>h j (by omega) (by omega)
theorem rfewF_some{r:Ros}{D:List Rng}{m:Nat}(h1:rlM r D m≠[]):∀(n k:Nat),k≤m→m<k+n→(∀j,k≤j→j<m→rlM r D j=[])→rfewF r D n k=(rlM r D m,rrM r D m)
 | 0,k,h2,h3,_=>by omega
 | n+1,k,h2,h3,h4=>by
  unfold rfewF
  by_cases c:k=m
  ·subst c;rw[if_neg h1]
  ·rw[if_pos (h4 k (by omega) (by omega))]
   exact rfewF_some h1 n (k+1) (by omega) (by omega) fun j g1 g2=>h4 j (by omega) g2
theorem hcomb_nn{n m:Nat}{l:List Int}(h:l∈hcomb n m 0):∀x∈l,0≤x:=fun x hx=>by have:=(hcomb_mem h).2.1 x hx;omega
theorem rat_nil{r:Ros}(hg:r.Good){l:List Int}(hl:∀x∈l,0≤x):rRat r ((entsL r).map devR) l r.hands.toNat []=[]↔htruthsR r (entsL r) (setN l)=[]:=by
 rw[← rRat_truths hg hl,List.map_eq_nil_iff]
theorem rlM_due{r:Ros}(hg:r.Good)(m:Nat):rlM r ((entsL r).map devR) m=hdue r m:=by
 unfold rlM hdue
 refine List.filter_congr fun l hl=>?_
 rw[decide_eq_decide,ne_eq,ne_eq,rat_nil hg (hcomb_nn hl)]
theorem rrM_mem{r:Ros}(hg:r.Good){m:Nat}(hm:m≤r.hands.toNat){u:List Int}:u∈foundR r (entsL r) m↔∃x∈rrM r ((entsL r).map devR) m,padR x=u:=by
 have hh:=hg.hands
 obtain⟨c1,c2⟩:=comb_set r.hands.toNat (by omega) m (by omega)
 have hp:(2:Nat)^r.hands.toNat≤2^4:=Nat.pow_le_pow_right (by omega) (by omega)
 rw[foundR_mem hg.toHead]
 constructor
 ·rintro⟨s,g1,g2,g3⟩
  obtain⟨k1,k2⟩:=c2 s g1 (by rw[popF_eq _ (by omega)];exact g2)
  rw[← k2,← rRat_truths hg (hcomb_nn k1)] at g3
  obtain⟨x,hx,rfl⟩:=List.mem_map.1 g3
  exact⟨x,List.mem_flatMap.2 ⟨_,k1,hx⟩,rfl⟩
 ·rintro⟨x,hx,rfl⟩
  obtain⟨l,hl,hx⟩:=List.mem_flatMap.1 hx
  obtain⟨g1,g2,_⟩:=c1 l hl
  refine⟨setN l,g1,by rw[← popF_eq _ (by omega)];exact g2,?_⟩
  rw[← rRat_truths hg (hcomb_nn hl)]
  exact List.mem_map.2 ⟨x,hx,rfl⟩
theorem rfew_spec{r:Ros}(hg:r.Good)(hro:rosE r=0) :
  (knownE r []=0∧(rfew r).1=fewL r∧fewL r≠[]∧(∀u,u∈explR r (entsL r)↔∃x∈(rfew r).2,padR x=u))∨(knownE r []=11∧rfew r=([],[])∧fewL r=[]∧explR r (entsL r)=[]):=by
 rcases explR_spec r (entsL r) with⟨e,g⟩ | ⟨m,g1,g2,g3,g4⟩
 ·right
  have hn:∀m,m≤r.hands.toNat→hdue r m=[]:=fun m hm=>(found_due hg.toHead hm).1 (g m hm)
  obtain⟨k1,k2⟩:=fewL_none hg hro hn
  exact⟨k1,rfewF_none _ _ fun j _ hj=>by rw[rlM_due hg];exact hn j (by omega),k2,e⟩
 ·left
  have h1:hdue r m≠[]:=fun c=>g3 ((found_due hg.toHead g1).2 c)
  have h0:∀j,j<m→hdue r j=[]:=fun j hj=>(found_due hg.toHead (by omega)).1 (g4 j hj)
  obtain⟨k1,k2⟩:=fewL_some hg hro g1 h1 h0
  have hf:rfew r=(rlM r ((entsL r).map devR) m,rrM r ((entsL r).map devR) m):=rfewF_some (by rw[rlM_due hg];exact h1) _ _ (by omega) (by omega) fun j _ hj=>by rw[rlM_due hg];exact h0 j hj
  rw[hf]
  refine⟨k1,by rw[k2];exact rlM_due hg m,by rw[k2];exact h1,fun u=>?_⟩
  rw[explR_iff g2]
  exact rrM_mem hg g1
end Go.Proofs
namespace Go.Proofs
open Go Go.Mu Go.Ins
variable {S:MC Tryz.prog}
theorem rrated_p(r:Ros)(hr:r.Head)(hdy:∀t∈r.ents,0≤t.day∧t.day≤60)(D:List Rng)(hD:D.length=r.ents.length)(hDb:∀d∈D,(-2000000≤d.lo∧d.lo≤2000000)∧ -2000000≤d.hi∧d.hi≤2000000)(l:List Int)(hl:l.length≤1000000) :
  ∀(m:Nat) (b:List Int),(b.length:Int)+m=r.hands→(∀n∈b, -5≤n∧n≤5)→PureV S 108 [r.av,.list .no 2 (D.map Rng.av),ints1 l,ints1 b] (htss (rRat r D l m b)):=by
 intro m
 induction m with
 | zero=>
  intro b hb hbb
  have hex:=rexplained_p (S:=S) r hr hdy D hD hDb b (by omega) hbb
  refine PvE (Tryz.envOK (S:=S) 61 Tryz.ord108 fs421 fs421_ok) (htss_plain _) Tryz.kp108 Tryz.func108 rfl ?_
  intro σ
  unfold rRat
  generalize rExpl r D b=B at *
  have hc:((b.length:Int)=r.hands)=True:=eq_true (by omega)
  simp only[Ros.av,ints1] at hex⊢
  simp -implicitDefEqProofs (maxSteps:=9^9) (disch:=omega) only[go_sem,simprocAttr,hc]
  refine hex _ _ ?_
  cases B
  ·simp -implicitDefEqProofs (maxSteps:=9^9) (disch:=omega) only[go_sem,simprocAttr,htss,ints1,List.map_nil]
  ·simp -implicitDefEqProofs (maxSteps:=9^9) (disch:=omega) only[go_sem,simprocAttr,htss,ints1,List.map_nil]
 | succ m ih=>
  intro b hb hbb
  have hhd:=hr.hands
  have hmn:=hr.mn
  have hlen:=rRat_len hr (D:=D) (l:=l) m
  have h11:11^m≤11^3:=Nat.pow_le_pow_right (by omega) (by omega)
  have hhs:=rhas_p (S:=S) l hl (b.length:Int)
  refine PvE (Tryz.envOK (S:=S) 61 Tryz.ord108 fs421 fs421_ok) (htss_plain _) Tryz.kp108 Tryz.func108 rfl ?_
  intro σ
  have hc:((b.length:Int)=r.hands)=False:=eq_false (by omega)
  by_cases h:l.contains (b.length:Int)=true
  ·have e:rRat r D l (m+1) b=(List.range (r.mx-r.mn+1).toNat).flatMap fun(k:Nat)=>if r.mn+k=0 then[] else rRat r D l m (b++[r.mn+k]):=by
    show(if l.contains (b.length:Int) then _ else _)=_
    rw[if_pos h]
   rw[e]
   rw[h] at hhs
   have hbd:∀i,i≤11→((List.range i).flatMap fun(k:Nat)=>if r.mn+k=0 then[] else rRat r D l m (b++[r.mn+k])).length≤i*1331:=fun i hi=>fmLen (fun k=>by
    split
    ·simp
    ·exact Nat.le_trans (hlen _) h11) i
   clear e hlen
   obtain⟨F,hF⟩:∃F:Nat→List (List Int),F=fun(k:Nat)=>if r.mn+k=0 then[] else rRat r D l m (b++[r.mn+k]):=⟨_,rfl⟩
   rw[← hF] at hbd⊢
   simp only[Ros.av,ints1] at hhs⊢
   simp -implicitDefEqProofs (maxSteps:=9^9) (disch:=omega) only[go_sem,simprocAttr,hc]
   refine hhs _ _ ?_
   simp -implicitDefEqProofs (maxSteps:=9^9) (disch:=omega) only[go_sem,simprocAttr]
   refine ARun.ghost 9 1 (sz0:=0) rfl (by simp[lookA]) ?_
   simp only[ins,↓reduceIte,List.append_assoc,List.cons_append,List.nil_append,List.length_append,List.length_cons,List.length_nil,Nat.zero_add,Nat.reduceEqDiff,Nat.reduceAdd]
   refine ARun.forS (Tryz.envOK (S:=S) 61 Tryz.ord108 fs421 fs421_ok) (r.mx-r.mn+1).toNat (fun _=>True) (fun i=>[(9,.list (.own (σ.length+1)) 1 (((List.range i).flatMap F).map ints1)),(10,.int .i64 (r.mn+i))]) (fun i j=>σ++(.cells [.int .i64 r.hands,.int .i64 r.skill,.int .i64 r.mn,.int .i64 r.mx,.list .no 2 (r.sets.map Sg.av),.list .no 6 (r.ents.map Tn.av)]:: .tail ((List.range i).flatMap F).length 1::j)) [] (by kernel_rfl) (by simp) (by simp[upd,ins,subF,lookA]) trivial ?_ ?_
   ·intro i j hi _ ih2
    have hb2:=hbd i (by omega)
    have hle:(r.mn+(i:Int)≤r.mx)=True:=eq_true (by omega)
    have hwi:IntKind.i64.wrap (r.mn+(i:Int)+1)=r.mn+((i+1:Nat):Int):=by rw[wrap64 (by omega) (by omega)];omega
    have hfs:(List.range (i+1)).flatMap F=(List.range i).flatMap F++F i:=by rw[List.range_succ,List.flatMap_append];simp
    rw[hfs] at ih2
    clear hfs
    generalize (List.range i).flatMap F=B at hb2 ih2⊢
    by_cases h0:r.mn+(i:Int)=0
    ·have h0':(r.mn+(i:Int)=0)=True:=eq_true h0
     have hFi:F i=[]:=by rw[hF];exact if_pos h0
     rw[hFi,List.append_nil] at ih2
     simp -implicitDefEqProofs (maxSteps:=9^9) (disch:=omega) only[go_sem,simprocAttr,hle,h0',hwi]
     exact(ih2 trivial j).castS rfl (by simp[upd,ins,subF,lookA])
    ·have h0':(r.mn+(i:Int)=0)=False:=eq_false h0
     have hFi:F i=rRat r D l m (b++[r.mn+i]):=by rw[hF];exact if_neg h0
     have hFl:(F i).length≤1331:=by rw[hFi];exact Nat.le_trans (rRat_len hr m _) h11
     have ih':=ih (b++[r.mn+i]) (by simp;omega) (fun n hn=>by
      rcases List.mem_append.1 hn with hn | hn
      ·exact hbb n hn
      ·simp at hn;omega)
     rw[← hFi] at ih'
     simp only[Ros.av,ints1,List.map_append,List.map_cons,List.map_nil] at ih'
     clear hFi hF
     generalize F i=C at hFl ih2 ih'
     simp -implicitDefEqProofs (maxSteps:=9^9) (disch:=omega) only[go_sem,simprocAttr,hle,h0',hwi]
     refine ACalls.weaken (l':=[.agg [.int .i64 r.hands,.int .i64 r.skill,.int .i64 r.mn,.int .i64 r.mx,.list .no 2 (r.sets.map Sg.av),.list .no 6 (r.ents.map Tn.av)],.list .no 2 (D.map Rng.av),.list .no 1 (l.map (AV.int .i64)),.list .no 1 (b.map (AV.int .i64)++[AV.int .i64 (r.mn+(i:Int))])]) ⟨⟨rfl,rfl,rfl,rfl,⟨rfl,.inl rfl,.inl rfl⟩,⟨rfl,.inl rfl,.inl rfl⟩,trivial⟩,⟨rfl,.inl rfl,.inl rfl⟩,⟨rfl,.inl rfl,.inl rfl⟩,⟨rfl,.inl rfl,.inl rfl⟩,trivial⟩ (ih' _ _ ?_)
     simp only[htss]
     simp -implicitDefEqProofs (maxSteps:=9^9) (disch:=omega) only[go_sem,simprocAttr,hwi]
     exact(ih2 trivial (j++[.tail (b.length+1) 1])).castS (by simp) (by simp[upd,ins,subF,lookA])
   ·intro j _
    have hle:(r.mn+(((r.mx-r.mn+1).toNat:Nat):Int)≤r.mx)=False:=eq_false (by omega)
    generalize (List.range (r.mx-r.mn+1).toNat).flatMap F=B
    simp -implicitDefEqProofs (maxSteps:=9^9) (disch:=omega) only[go_sem,simprocAttr,hle,htss]
  ·have e:rRat r D l (m+1) b=rRat r D l m (b++[0]):=by
    show(if l.contains (b.length:Int) then _ else _)=_
    rw[if_neg h]
   rw[e]
   rw[Bool.eq_false_iff.2 h] at hhs
   have ih':=ih (b++[0]) (by simp;omega) (fun n hn=>by
    rcases List.mem_append.1 hn with hn | hn
    ·exact hbb n hn
    ·simp at hn;omega)
   have hRl:=hlen (b++[0])
   generalize rRat r D l m (b++[0])=C at *
   simp only[Ros.av,ints1,List.map_append,List.map_cons,List.map_nil] at hhs ih'⊢
   simp -implicitDefEqProofs (maxSteps:=9^9) (disch:=omega) only[go_sem,simprocAttr,hc]
   refine hhs _ _ ?_
   simp -implicitDefEqProofs (maxSteps:=9^9) (disch:=omega) only[go_sem,simprocAttr]
   refine ACalls.weaken (l':=[.agg [.int .i64 r.hands,.int .i64 r.skill,.int .i64 r.mn,.int .i64 r.mx,.list .no 2 (r.sets.map Sg.av),.list .no 6 (r.ents.map Tn.av)],.list .no 2 (D.map Rng.av),.list .no 1 (l.map (AV.int .i64)),.list .no 1 (b.map (AV.int .i64)++[AV.int .i64 0])]) ⟨⟨rfl,rfl,rfl,rfl,⟨rfl,.inl rfl,.inl rfl⟩,⟨rfl,.inl rfl,.inl rfl⟩,trivial⟩,⟨rfl,.inl rfl,.inl rfl⟩,⟨rfl,.inl rfl,.inl rfl⟩,⟨rfl,.inl rfl,.inl rfl⟩,trivial⟩ (ih' _ _ ?_)
   simp only[htss]
   simp -implicitDefEqProofs (maxSteps:=9^9) (disch:=omega) only[go_sem,simprocAttr]
theorem sameRos_p(r:Ros)(hs:r.sets.length≤1000000)(he:r.ents.length≤1000000)(hf:∀x∈r.ents,x.ear.tones.length≤1000000∧x.ear.rds.length≤1000000):PureV S 37 [r.av,r.av] (.bool true):=by
 have hse:∀x∈r.ents,PureV S 101 [x.ear.av,x.ear.av] (.bool true):=fun x hx=>by
  have h1:=(hf x hx).1
  have h2:=(hf x hx).2
  have:=sameEars_p (S:=S) x.ear x.ear (by omega) (by omega) (by omega) (by omega)
  rwa [decide_eq_true rfl] at this
 refine PvE (Tryz.envOK (S:=S) 115 Tryz.ord37 fs14 fs14_ok) (.bool) Tryz.kp37 Tryz.func37 rfl ?_
 intro σ
 obtain⟨hands,skill,mn,mx,sets,ents⟩:=r
 simp only[Ros.av] at hs he hf hse⊢
 simp -implicitDefEqProofs (maxSteps:=9^9) (disch:=omega) only[go_sem,simprocAttr]
 refine ARun.forS (Tryz.envOK (S:=S) 115 Tryz.ord37 fs14 fs14_ok) sets.length (fun _=>True) (fun i=>[(6,.int .i64 i)]) (fun _ _=>σ++[.cells [.int .i64 hands,.int .i64 skill,.int .i64 mn,.int .i64 mx,.list .no 2 (sets.map Sg.av),.list .no 6 (ents.map Tn.av)],.cells [.int .i64 hands,.int .i64 skill,.int .i64 mn,.int .i64 mx,.list .no 2 (sets.map Sg.av),.list .no 6 (ents.map Tn.av)]]) [] (by kernel_rfl) (by simp) (by simp[upd,ins,subF,lookA]) trivial ?_ ?_
 ·intro i j hi _ ih
  have hidx:idx (sets.map Sg.av) (i:Int)=some (Sg.av sets[i]):=idx_nat hi
  have hwi:IntKind.i64.wrap ((i:Int)+1)=((i+1:Nat):Int):=by rw[wrap64 (by omega) (by omega)];rfl
  generalize sets[i]=s at *
  simp only[Sg.av] at hidx
  simp -implicitDefEqProofs (maxSteps:=9^9) (disch:=omega) only[go_sem,simprocAttr,hidx,hwi]
  exact(ih trivial []).castS rfl (by simp[upd,ins,subF,lookA])
 ·intro j _
  simp -implicitDefEqProofs (maxSteps:=9^9) (disch:=omega) only[go_sem,simprocAttr]
  refine ARun.forS (Tryz.envOK (S:=S) 115 Tryz.ord37 fs14 fs14_ok) ents.length (fun _=>True) (fun i=>[(7,.int .i64 i)]) (fun i j=>σ++(.cells [.int .i64 hands,.int .i64 skill,.int .i64 mn,.int .i64 mx,.list .no 2 (sets.map Sg.av),.list .no 6 (ents.map Tn.av)]:: .cells [.int .i64 hands,.int .i64 skill,.int .i64 mn,.int .i64 mx,.list .no 2 (sets.map Sg.av),.list .no 6 (ents.map Tn.av)]::j)) [] (by kernel_rfl) (by simp) (by simp[upd,ins,subF,lookA]) trivial ?_ ?_
  ·intro i j hi _ ih
   have hidx:idx (ents.map Tn.av) (i:Int)=some (Tn.av ents[i]):=idx_nat hi
   have hwi:IntKind.i64.wrap ((i:Int)+1)=((i+1:Nat):Int):=by rw[wrap64 (by omega) (by omega)];rfl
   have hsi:=hse _ (List.getElem_mem hi)
   generalize ents[i]=x at *
   obtain⟨day,hand,due,ear⟩:=x
   obtain⟨sl,ts,rs⟩:=ear
   simp only[Tn.av,Tn.cells,Ear.av] at hidx hsi
   simp -implicitDefEqProofs (maxSteps:=9^9) (disch:=omega) only[go_sem,simprocAttr,hidx]
   refine hsi _ _ ?_
   simp -implicitDefEqProofs (maxSteps:=9^9) (disch:=omega) only[go_sem,simprocAttr,hwi]
   exact(ih trivial (j++[.cells [.int .i64 day,.int .i64 hand,.int .i64 due,.int .i64 sl,.list .no 2 (ts.map Rng.av),.list .no 6 (rs.map Rd.av)],.cells [.int .i64 day,.int .i64 hand,.int .i64 due,.int .i64 sl,.list .no 2 (ts.map Rng.av),.list .no 6 (rs.map Rd.av)]])).castS (by simp) (by simp[upd,ins,subF,lookA])
  ·intro j _
   simp -implicitDefEqProofs (maxSteps:=9^9) (disch:=omega) only[go_sem,simprocAttr]
def loudB(e:Ear):Bool:=decide (20<e.tones.length)||decide (20<e.rds.length)
theorem loud11_p(e:Ear)(h1:e.tones.length≤4294967296)(h2:e.rds.length≤4294967296):PureV S 28 [e.av] (.bool (loudB e)):=by
 refine PvE (Tryz.envOK (S:=S) 13 (fun _=>([],[])) fs0 fs0_ok) (.bool) Tryz.kp28 Tryz.func28 rfl ?_
 intro σ
 obtain⟨sl,ts,rs⟩:=e
 simp only[Ear.av,loudB] at h1 h2⊢
 by_cases c1:20<ts.length
 ·have c1':(20<(ts.length:Int))=True:=eq_true (by omega)
  simp -implicitDefEqProofs (maxSteps:=9^9) (disch:=omega) only[go_sem,simprocAttr,c1']
 ·have c1':(20<(ts.length:Int))=False:=eq_false (by omega)
  simp -implicitDefEqProofs (maxSteps:=9^9) (disch:=omega) only[go_sem,simprocAttr,c1']
  simp[c1];omega
def crowdB(r:Ros):Bool:=(r.ents.take 20).any (fun x=>loudB x.ear)||(decide (20<r.sets.length)||decide (20<r.ents.length))
theorem crowd11_p(r:Ros)(hs:r.sets.length≤4294967296)(he:r.ents.length≤4294967296)(hf:∀x∈r.ents,x.ear.tones.length≤4294967296∧x.ear.rds.length≤4294967296):PureV S 27 [r.av] (.bool (crowdB r)):=by
 have hld:=fun x hx=>loud11_p (S:=S) (Tn.ear x) (hf x hx).1 (hf x hx).2
 refine PvE (Tryz.envOK (S:=S) 32 (fun _=>([],[])) fs0 fs0_ok) (.bool) Tryz.kp27 Tryz.func27 rfl ?_
 intro σ
 obtain⟨hands,skill,mn,mx,sets,ents⟩:=r
 simp only[Ros.av,crowdB] at hs he hf hld⊢
 simp -implicitDefEqProofs (maxSteps:=9^9) (disch:=omega) only[go_sem,simprocAttr]
 have hML:(ents.take 20).length≤20:=by rw[List.length_take];omega
 have hMl:(ents.take 20).length=min 20 ents.length:=List.length_take
 refine ARun.forS (Tryz.envOK (S:=S) 32 (fun _=>([],[])) fs0 fs0_ok) (ents.take 20).length (fun i=>((ents.take 20).take i).any (fun x=>loudB x.ear)=false) (fun i=>[(3,.int .i64 i)]) (fun _ j=>σ++(.cells [.int .i64 hands,.int .i64 skill,.int .i64 mn,.int .i64 mx,.list .no 2 (sets.map Sg.av),.list .no 6 (ents.map Tn.av)]::j)) [] (by kernel_rfl) (by simp) (by simp[upd,ins,subF,lookA]) (by simp) ?_ ?_
 ·intro i j hi hp ih
  have hie:i<ents.length:=by omega
  have hidx:idx (ents.map Tn.av) (i:Int)=some (Tn.av ents[i]):=idx_nat hie
  have hwi:IntKind.i64.wrap ((i:Int)+1)=((i+1:Nat):Int):=by rw[wrap64 (by omega) (by omega)];rfl
  have hli:=hld _ (List.getElem_mem hie)
  have hil:((i:Int)<ents.length)=True:=eq_true (by omega)
  have hi20:((i:Int)<20)=True:=eq_true (by omega)
  have hst:((ents.take 20).take (i+1)).any (fun x=>loudB x.ear)=(((ents.take 20).take i).any (fun x=>loudB x.ear)||loudB ents[i].ear):=by
   rw[List.take_succ_eq_append_getElem hi,List.any_append];simp
  have hany:loudB ents[i].ear=true→(ents.take 20).any (fun x=>loudB x.ear)=true:=fun h=>List.any_eq_true.2 ⟨ents[i],by rw[← List.getElem_take (h:=hi)];exact List.getElem_mem hi,h⟩
  rw[hst,hp,Bool.false_or] at ih
  clear hst
  generalize ents[i]=x at *
  obtain⟨day,hand,due,ear⟩:=x
  obtain⟨sl,ts,rs⟩:=ear
  simp only[Tn.av,Tn.cells,Ear.av] at hidx hli hany ih
  simp -implicitDefEqProofs (maxSteps:=9^9) (disch:=omega) only[go_sem,simprocAttr,hidx,hil,hi20]
  refine hli _ _ ?_
  generalize loudB ⟨sl,ts,rs⟩= B at *
  cases B
  ·simp -implicitDefEqProofs (maxSteps:=9^9) (disch:=omega) only[go_sem,simprocAttr,hwi]
   exact(ih rfl j).castS rfl (by simp[upd,ins,subF,lookA])
  ·simp -implicitDefEqProofs (maxSteps:=9^9) (disch:=omega) only[go_sem,simprocAttr]
   rw[hany rfl];rfl
 ·intro j hp
  rw[List.take_length] at hp
  rw[hp,Bool.false_or]
  by_cases c0:ents.length≤20
  ·have hl:((ents.take 20).length:Int)=ents.length:=by omega
   rw[hl]
   by_cases c1:20<sets.length
   ·have c1':(20<(sets.length:Int))=True:=eq_true (by omega)
    simp -implicitDefEqProofs (maxSteps:=9^9) (disch:=omega) only[go_sem,simprocAttr,c1']
   ·have c1':(20<(sets.length:Int))=False:=eq_false (by omega)
    have c2':(20<(ents.length:Int))=False:=eq_false (by omega)
    simp -implicitDefEqProofs (maxSteps:=9^9) (disch:=omega) only[go_sem,simprocAttr,c1',c2']
  ·have hl:((ents.take 20).length:Int)=20:=by omega
   rw[hl]
   have c2':(20<(ents.length:Int))=True:=eq_true (by omega)
   by_cases c1:20<sets.length
   ·have c1':(20<(sets.length:Int))=True:=eq_true (by omega)
    simp -implicitDefEqProofs (maxSteps:=9^9) (disch:=omega) only[go_sem,simprocAttr,c1',c2']
   ·have c1':(20<(sets.length:Int))=False:=eq_false (by omega)
    simp -implicitDefEqProofs (maxSteps:=9^9) (disch:=omega) only[go_sem,simprocAttr,c1',c2']
end Go.Proofs
