/- Texts of a proof: lemmas. -/
import Derived.Test.YtgbdndlmdklefaaGreatK38
import Derived.Test.YtgbdndlmdklefaaGreatK37
set_option linter.unusedSimpArgs false
set_option linter.unusedVariables false
set_option maxRecDepth 100000
set_option maxHeartbeats 40000000
namespace Go.Proofs
open Go Go.Mu Go.Ins
variable {S:MC Tryz.prog}
def rEnt1(r:Ros)(t:Tn)(d:Rng)(x:List Int):Bool:=(List.range r.hands.toNat).any fun(h:Nat)=>rTun r t d h (tg x h)
def rExpl(r:Ros)(D:List Rng)(x:List Int):Bool:=(List.range r.ents.length).all fun i=>rEnt1 r (r.ents.getD i default) (D.getD i default) x
theorem rexplained_p(r:Ros)(hr:r.Head)(hdy:∀t∈r.ents,0≤t.day∧t.day≤60)(D:List Rng)(hD:D.length=r.ents.length)(hDb:∀d∈D,(-2000000≤d.lo∧d.lo≤2000000)∧ -2000000≤d.hi∧d.hi≤2000000)(x:List Int)(hx:(x.length:Int)=r.hands)(hxb:∀n∈x, -5≤n∧n≤5) :
  PureV S 152 [r.av,.list .no 2 (D.map Rng.av),ints1 x] (.bool (rExpl r D x)):=by
 refine PvE (Tryz.envOK (S:=S) 44 Tryz.ord152 fs421 fs421_ok) (.bool) Tryz.kp152 Tryz.func152 rfl ?_
 intro σ
 have hh:=hr.hands
 have hsk:=hr.skill
 have hsl:=hr.setl
 have hel:=hr.entl
 obtain⟨hands,skill,mn,mx,sets,ents⟩:=r
 simp only[Ros.av,ints1] at hdy hD hx hh hsk hsl hel⊢
 simp -implicitDefEqProofs (maxSteps:=9^9) (disch:=omega) only[go_sem,simprocAttr]
 refine ARun.forS (Tryz.envOK (S:=S) 44 Tryz.ord152 fs421 fs421_ok) ents.length (fun i=>((List.range i).all fun i=>rEnt1 ⟨hands,skill,mn,mx,sets,ents⟩ (ents.getD i default) (D.getD i default) x)=true) (fun i=>[(7,.int .i64 i)]) (fun _ _=>σ++[.cells [.int .i64 hands,.int .i64 skill,.int .i64 mn,.int .i64 mx,.list .no 2 (sets.map Sg.av),.list .no 6 (ents.map Tn.av)]]) [] (by kernel_rfl) (by simp) (by simp[upd,ins,subF,lookA]) (by simp) ?_ ?_
 ·intro i j hi hp ih
  have hidx:idx (ents.map Tn.av) (i:Int)=some (Tn.av ents[i]):=idx_nat hi
  have hidd:idx (D.map Rng.av) (i:Int)=some (Rng.av (D[i]'(by omega))):=idx_nat (by omega)
  have hwi:IntKind.i64.wrap ((i:Int)+1)=((i+1:Nat):Int):=by rw[wrap64 (by omega) (by omega)];rfl
  have hti:=hdy _ (List.getElem_mem hi)
  have hdi:=hDb _ (List.getElem_mem (l:=D) (n:=i) (by omega))
  have hge:ents.getD i default=ents[i]:=by simp[List.getD,List.getElem?_eq_getElem hi]
  have hgd:D.getD i default=D[i]'(by omega):=by simp[List.getD,List.getElem?_eq_getElem (show i<D.length by omega)]
  have hst:((List.range (i+1)).all fun i=>rEnt1 ⟨hands,skill,mn,mx,sets,ents⟩ (ents.getD i default) (D.getD i default) x)=rEnt1 ⟨hands,skill,mn,mx,sets,ents⟩ (ents.getD i default) (D.getD i default) x:=by
   rw[List.range_succ,List.all_append,hp];simp
  have hall:rEnt1 ⟨hands,skill,mn,mx,sets,ents⟩ (ents.getD i default) (D.getD i default) x=false→rExpl ⟨hands,skill,mn,mx,sets,ents⟩ D x=false:=fun h=>by
   unfold rExpl
   rw[List.all_eq_false]
   exact⟨i,List.mem_range.2 hi,by simpa using h⟩
  rw[hst,hge,hgd] at ih
  rw[hge,hgd] at hall
  clear hst hge hgd
  generalize ents[i]=t at *
  generalize D[i]'(by omega)=d at *
  obtain⟨day,hand,due,ear⟩:=t
  obtain⟨sl,ts,rs⟩:=ear
  simp only[Tn.av,Tn.cells] at hidx hti
  simp only[Rng.av] at hidd
  simp -implicitDefEqProofs (maxSteps:=9^9) (disch:=omega) only[go_sem,simprocAttr]
  refine ARun.forS (Tryz.envOK (S:=S) 44 Tryz.ord152 fs421 fs421_ok) hands.toNat (fun _=>True) (fun h=>[(8,.bool ((List.range h).any fun(h:Nat)=>rTun ⟨hands,skill,mn,mx,sets,ents⟩ ⟨day,hand,due,⟨sl,ts,rs⟩⟩ d h (tg x h))),(9,.int .i64 h)]) (fun _ _=>σ++[.cells [.int .i64 hands,.int .i64 skill,.int .i64 mn,.int .i64 mx,.list .no 2 (sets.map Sg.av),.list .no 6 (ents.map Tn.av)]]) [] (by kernel_rfl) (by simp) (by simp[upd,ins,subF,lookA]) trivial ?_ ?_
  ·intro h j2 hh2 _ ih2
   have hix:idx (x.map (AV.int .i64)) (h:Int)=some (.int .i64 (tg x h)):=idx_tg ⟨by omega,by omega⟩
   have hxh: -5≤tg x h∧tg x h≤5:=by
    have:h<x.length:=by omega
    have e:tg x h=x[h]:=by simp[tg,List.getD_eq_getElem?_getD,List.getElem?_eq_getElem this]
    rw[e];exact hxb _ (List.getElem_mem this)
   have hwh:IntKind.i64.wrap ((h:Int)+1)=((h+1:Nat):Int):=by rw[wrap64 (by omega) (by omega)];rfl
   have hlt:((h:Int)<hands)=True:=eq_true (by omega)
   have hok:TunOK ⟨hands,skill,mn,mx,sets,ents⟩ ⟨day,hand,due,⟨sl,ts,rs⟩⟩ ⟨d.lo,d.hi⟩ (tg x h):=⟨⟨hsl,hsk⟩,hti,hdi,hxh⟩
   have hok':=eq_true hok
   have hst:((List.range (h+1)).any fun(h:Nat)=>rTun ⟨hands,skill,mn,mx,sets,ents⟩ ⟨day,hand,due,⟨sl,ts,rs⟩⟩ d h (tg x h))=(((List.range h).any fun(h:Nat)=>rTun ⟨hands,skill,mn,mx,sets,ents⟩ ⟨day,hand,due,⟨sl,ts,rs⟩⟩ d h (tg x h))||rTun ⟨hands,skill,mn,mx,sets,ents⟩ ⟨day,hand,due,⟨sl,ts,rs⟩⟩ ⟨d.lo,d.hi⟩ h (tg x h)):=by
    rw[List.range_succ,List.any_append];simp
   rw[hst] at ih2
   clear hst hok
   generalize ((List.range h).any fun(h:Nat)=>rTun ⟨hands,skill,mn,mx,sets,ents⟩ ⟨day,hand,due,⟨sl,ts,rs⟩⟩ d h (tg x h))=B at *
   cases B
   ·cases hT:rTun ⟨hands,skill,mn,mx,sets,ents⟩ ⟨day,hand,due,⟨sl,ts,rs⟩⟩ ⟨d.lo,d.hi⟩ h (tg x h)
    ·rw[hT] at ih2
     simp -implicitDefEqProofs (maxSteps:=9^9) (disch:=omega) only[go_sem,simprocAttr,hidx,hidd,hix,hlt,hwh,hok',hT]
     exact(ih2 trivial []).castS rfl (by simp[upd,ins,subF,lookA])
    ·rw[hT] at ih2
     simp -implicitDefEqProofs (maxSteps:=9^9) (disch:=omega) only[go_sem,simprocAttr,hidx,hidd,hix,hlt,hwh,hok',hT]
     exact(ih2 trivial []).castS rfl (by simp[upd,ins,subF,lookA])
   ·simp -implicitDefEqProofs (maxSteps:=9^9) (disch:=omega) only[go_sem,simprocAttr,hidx,hidd,hix,hlt,hwh]
    exact(ih2 trivial []).castS rfl (by simp[upd,ins,subF,lookA])
  ·intro j2 _
   have hge:(((hands.toNat:Nat):Int)<hands)=False:=eq_false (by omega)
   have hE:((List.range hands.toNat).any fun(h:Nat)=>rTun ⟨hands,skill,mn,mx,sets,ents⟩ ⟨day,hand,due,⟨sl,ts,rs⟩⟩ d h (tg x h))=rEnt1 ⟨hands,skill,mn,mx,sets,ents⟩ ⟨day,hand,due,⟨sl,ts,rs⟩⟩ d x:=rfl
   rw[hE]
   generalize rEnt1 ⟨hands,skill,mn,mx,sets,ents⟩ ⟨day,hand,due,⟨sl,ts,rs⟩⟩ d x=B at *
   cases B
   ·simp -implicitDefEqProofs (maxSteps:=9^9) (disch:=omega) only[go_sem,simprocAttr,hge]
    rw[hall rfl]
   ·simp -implicitDefEqProofs (maxSteps:=9^9) (disch:=omega) only[go_sem,simprocAttr,hge,hwi]
    exact(ih rfl []).castS rfl (by simp[upd,ins,subF,lookA])
 ·intro j hp
  have hF:rExpl ⟨hands,skill,mn,mx,sets,ents⟩ D x=true:=hp
  rw[hF]
  simp -implicitDefEqProofs (maxSteps:=9^9) (disch:=omega) only[go_sem,simprocAttr]
end Go.Proofs
namespace Go.Proofs
open Go Go.Mu Go.Ins
theorem any_conv{V:List Int}(hV:V≠[])(ha:V.Pairwise (· < ·))(hc:∀y,tg V 0≤y→y≤tg V ((V.length:Int)-1)→y∈V){due o sk:Int}(hs:0≤sk) :
  ((V.map (· - due)).any fun d=>decide (-sk≤d-o∧d-o≤sk))=decide ((devR (V.map (· - due))).lo-sk≤o∧o≤(devR (V.map (· - due))).hi+sk):=by
 rw[devR_sub hV]
 have hle:=(asc_tg ha (tgl_mem hV)).1
 rw[Bool.eq_iff_iff,List.any_eq_true,decide_eq_true_eq]
 constructor
 ·rintro⟨d,hd,h⟩
  obtain⟨v,hv,rfl⟩:=List.mem_map.1 hd
  have:=asc_tg ha hv
  have h:=of_decide_eq_true h
  simp only
  omega
 ·intro h
  simp only at h
  obtain⟨y,hy1,hy2,hy3⟩:∃y,tg V 0≤y∧y≤tg V ((V.length:Int)-1)∧(-sk≤y-due-o∧y-due-o≤sk):=by
   by_cases c1:o<tg V 0-due
   ·exact⟨tg V 0,by omega,by omega,by omega⟩
   ·by_cases c2:tg V ((V.length:Int)-1)-due<o
    ·exact⟨tg V ((V.length:Int)-1),by omega,by omega,by omega⟩
    ·exact⟨o+due,by omega,by omega,by omega⟩
  exact⟨y-due,List.mem_map.2 ⟨y,hc y hy1 hy2,rfl⟩,decide_eq_true hy3⟩
theorem rTun_byB{r:Ros}(hg:r.Good){i:Nat}(hi:i<r.ents.length)(x:List Int)(h:Nat):byB r (entsL r) x i h=rTun r (r.ents.getD i default) (((entsL r).map devR).getD i default) h (tg x h):=by
 have hge:r.ents.getD i default=r.ents[i]:=by simp[List.getD,List.getElem?_eq_getElem hi]
 have hed:(entsL r).getD i []=(chkE r.ents[i] r.hands).1:=by
  simp[entsL,List.getD_eq_getElem?_getD,List.getElem?_eq_getElem hi]
 have hdd:((entsL r).map devR).getD i default=devR (chkE r.ents[i] r.hands).1:=by
  simp[entsL,List.getD_eq_getElem?_getD,List.getElem?_eq_getElem hi]
 unfold byB rTun
 rw[hge,hed,hdd]
 obtain⟨sl,lo,hi',rds,h1,h2,h3,h4⟩:=hg.one (List.getElem_mem hi)
 rw[h4]
 have hsk:=hg.skill
 by_cases c:0≤r.ents[i].hand∧r.ents[i].hand≠(h:Int)
 ·rw[if_pos c,decide_eq_false (by omega),Bool.false_and]
 ·rw[if_neg c,decide_eq_true (show r.ents[i].hand<0∨r.ents[i].hand=(h:Int) by omega),Bool.true_and]
  exact any_conv h3 (oneV_asc sl lo hi' rds) (fun y g1 g2=>oneV_conv h2 h3 ⟨g1,g2⟩) hsk.1
theorem rExpl_isB{r:Ros}(hg:r.Good)(x:List Int):rExpl r ((entsL r).map devR) x=isB r (entsL r) x:=by
 unfold rExpl isB rEnt1
 rw[Bool.eq_iff_iff,List.all_eq_true,List.all_eq_true]
 refine forall_congr' fun i=>⟨fun h hi=>?_,fun h hi=>?_⟩
 all_goals
  have hi':=List.mem_range.1 hi
  have g:=h hi
  rw[List.any_eq_true] at g⊢
  obtain⟨k,hk,e⟩:=g
  refine⟨k,hk,?_⟩
 ·rw[rTun_byB hg hi'];exact e
 ·rw[← rTun_byB hg hi'];exact e
def rRat(r:Ros)(D:List Rng)(l:List Int):Nat→List Int→List (List Int)
 | 0,b=>if rExpl r D b=true then[b] else[]
 | m+1,b=>if l.contains (b.length:Int) then(List.range (r.mx-r.mn+1).toNat).flatMap fun(k:Nat)=>if r.mn+k=0 then[] else rRat r D l m (b++[r.mn+k]) else rRat r D l m (b++[0])
theorem rRat_len{r:Ros}(hr:r.Head){D:List Rng}{l:List Int}:∀(m:Nat) (b:List Int),(rRat r D l m b).length≤11^m
 | 0,b=>by unfold rRat;split<;> simp
 | m+1,b=>by
  have hm:=hr.mn
  unfold rRat
  split
  ·have key:∀n:Nat,((List.range n).flatMap fun(k:Nat)=>if r.mn+k=0 then[] else rRat r D l m (b++[r.mn+k])).length≤n*11^m:=by
    intro n
    induction n with
    | zero=>simp
    | succ n ih=>
     rw[List.range_succ,List.flatMap_append,List.length_append,Nat.succ_mul]
     have:(([n]:List Nat).flatMap fun(k:Nat)=>if r.mn+k=0 then[] else rRat r D l m (b++[r.mn+k])).length≤11^m:=by
      rw[List.flatMap_singleton]
      split
      ·simp
      ·exact rRat_len hr m _
     omega
   have h1:=key (r.mx-r.mn+1).toNat
   have h2:(r.mx-r.mn+1).toNat≤11:=by omega
   have h3:=Nat.mul_le_mul_right (11^m) h2
   rw[Nat.pow_succ]
   omega
  ·have:=rRat_len hr m (b++[0]) (D:=D) (l:=l)
   have h4:11^m≤11^(m+1):=Nat.pow_le_pow_right (by omega) (by omega)
   omega
/-! The reference's rated is the program's truths (plain). -/
theorem setN_fold:∀(l:List Int) (s:Nat),(∀x∈l,0≤x)→∀i:Nat,(l.foldl (fun s h=>s|||2^h.toNat) s).testBit i=(s.testBit i||l.contains (i:Int))
 | [],s,_,i=>by simp
 | x::l,s,h,i=>by
  have hx:=h x (by simp)
  rw[List.foldl_cons,setN_fold l _ (fun y hy=>h y (by simp[hy])) i,Nat.testBit_or,Nat.testBit_two_pow,List.contains_cons,Bool.or_assoc]
  congr 1
  congr 1
  rw[Bool.eq_iff_iff,decide_eq_true_eq,beq_iff_eq]
  omega
theorem setN_bit{l:List Int}(h:∀x∈l,0≤x)(i:Nat):(setN l).testBit i=l.contains (i:Int):=by
 unfold setN;rw[setN_fold l 0 h i];simp
theorem isB_pad(r:Ros)(ds:List (List Int))(x:List Int):isB r ds (padR x)=isB r ds x:=by
 have e:∀i h,byB r ds (padR x) i h=byB r ds x i h:=fun i h=>by unfold byB offX;rw[padR_tg]
 unfold isB
 simp only[e]
theorem padR_snoc{b:List Int}{v:Int}(h:b.length<4):padR (b++[v])=setI (padR b) (b.length:Int) v:=by
 unfold padR setI
 rw[Int.toNat_natCast,List.set_append_right _ _ (Nat.le_refl _),Nat.sub_self,List.append_assoc,List.length_append,List.length_singleton]
 congr 1
 rw[show 4-b.length=(4- (b.length+1))+1 by omega,List.replicate_succ]
 rfl
theorem padR_zero{b:List Int}(h:b.length<4):padR (b++[0])=padR b:=by
 unfold padR
 rw[List.append_assoc,List.length_append,List.length_singleton,show 4-b.length=(4- (b.length+1))+1 by omega,List.replicate_succ]
 rfl
theorem rRat_all{r:Ros}(hg:r.Good){l:List Int}(hl:∀x∈l,0≤x):∀(m:Nat) (b:List Int),b.length+m=r.hands.toNat→(rRat r ((entsL r).map devR) l m b).map padR=(allR r (setN l) m (padR b) b.length).filter (isB r (entsL r))
 | 0,b,_=>by
  unfold rRat allR
  rw[rExpl_isB hg]
  by_cases h:isB r (entsL r) b=true
  ·rw[if_pos h,List.filter_cons,isB_pad,h];rfl
  ·rw[if_neg h,List.filter_cons,isB_pad,Bool.eq_false_iff.2 h];rfl
 | m+1,b,hm=>by
  have h4:=hg.hands
  unfold rRat allR
  rw[setN_bit hl]
  by_cases h:l.contains (b.length:Int)=true
  ·rw[if_pos h,if_pos h,List.map_flatMap,List.filter_flatMap]
   congr 1
   funext k
   by_cases h0:r.mn+(k:Int)=0
   ·rw[if_pos h0,if_pos h0];rfl
   ·rw[if_neg h0,if_neg h0,rRat_all hg hl m (b++[r.mn+k]) (by simp;omega),padR_snoc (by omega)]
    simp
  ·rw[if_neg h,if_neg h,rRat_all hg hl m (b++[0]) (by simp;omega),padR_zero (by omega)]
   simp
theorem rRat_truths{r:Ros}(hg:r.Good){l:List Int}(hl:∀x∈l,0≤x):(rRat r ((entsL r).map devR) l r.hands.toNat []).map padR=htruthsR r (entsL r) (setN l):=rRat_all hg hl r.hands.toNat [] (by simp)
theorem rRat_in{r:Ros}(hr:r.Head){D:List Rng}{l:List Int}:∀(m:Nat) (b x:List Int),x∈rRat r D l m b→x.length=b.length+m∧∀n∈x,n∈b∨ -5≤n∧n≤5
 | 0,b,x,h=>by
  unfold rRat at h
  split at h
  ·simp at h;subst h;exact⟨by simp,fun n hn=> .inl hn⟩
  ·cases h
 | m+1,b,x,h=>by
  have hmn:=hr.mn
  unfold rRat at h
  split at h
  ·obtain⟨k,hk,h⟩:=List.mem_flatMap.1 h
   have hk:=List.mem_range.1 hk
   split at h
   ·cases h
   ·obtain⟨h1,h2⟩:=rRat_in hr m _ x h
    rw[List.length_append,List.length_singleton] at h1
    refine⟨by omega,fun n hn=>?_⟩
    rcases h2 n hn with g | g
    ·rcases List.mem_append.1 g with g | g
     ·exact .inl g
     ·simp at g;right;omega
    ·exact .inr g
  ·obtain⟨h1,h2⟩:=rRat_in hr m _ x h
   rw[List.length_append,List.length_singleton] at h1
   refine⟨by omega,fun n hn=>?_⟩
   rcases h2 n hn with g | g
   ·rcases List.mem_append.1 g with g | g
    ·exact .inl g
    ·simp at g;right;omega
   ·exact .inr g
/-! The reference's fewest (plain). -/
def rlM(r:Ros)(D:List Rng)(m:Nat):List (List Int):=(hcomb r.hands.toNat m 0).filter fun l=>decide (rRat r D l r.hands.toNat []≠[])
def rrM(r:Ros)(D:List Rng)(m:Nat):List (List Int):=(hcomb r.hands.toNat m 0).flatMap fun l=>rRat r D l r.hands.toNat []
def rfewF(r:Ros)(D:List Rng):Nat→Nat→List (List Int)×List (List Int)
 | 0,_=>([],[])
 | n+1,k=>if rlM r D k=[] then rfewF r D n (k+1) else(rlM r D k,rrM r D k)
def rfew(r:Ros):List (List Int)×List (List Int):=rfewF r ((entsL r).map devR) (r.hands.toNat+1) 0
theorem rfewF_none{r:Ros}{D:List Rng}:∀(n k:Nat),(∀j,k≤j→j<k+n→rlM r D j=[])→rfewF r D n k=([],[])
 | 0,_,_=>rfl
 | n+1,k,h=>by
  unfold rfewF
  rw[if_pos (h k (by omega) (by omega))]
  exact rfewF_none n (k+1) fun j h1 h2=>h j (by omega) (by omega)
theorem rfewF_some{r:Ros}{D:List Rng}{m:Nat}(h1:rlM r D m≠[]):∀(n k:Nat),k≤m→m<k+n→(∀j,k≤j→j<m→rlM r D j=[])→rfewF r D n k=(rlM r D m,rrM r D m)
 | 0,k,h2,h3,_=>by omega
 | n+1,k,h2,h3,h4=>by
  unfold rfewF
  by_cases c:k=m
  ·subst c;rw[if_neg h1]
  ·rw[if_pos (h4 k (by omega) (by omega))]
   exact rfewF_some h1 n (k+1) (by omega) (by omega) fun j g1 g2=>h4 j (by omega) g2
theorem hcomb_nn{n m:Nat}{l:List Int}(h:l∈hcomb n m 0):∀x∈l,0≤x:=fun x hx=>by have:=(hcomb_mem h).2.1 x hx;omega
theorem rat_nil{r:Ros}(hg:r.Good){l:List Int}(hl:∀x∈l,0≤x):rRat r ((entsL r).map devR) l r.hands.toNat []=[]↔htruthsR r (entsL r) (setN l)=[]:=by
 rw[← rRat_truths hg hl,List.map_eq_nil_iff]
theorem rlM_due{r:Ros}(hg:r.Good)(m:Nat):rlM r ((entsL r).map devR) m=hdue r m:=by
 unfold rlM hdue
 refine List.filter_congr fun l hl=>?_
 rw[decide_eq_decide,ne_eq,ne_eq,rat_nil hg (hcomb_nn hl)]
theorem rrM_mem{r:Ros}(hg:r.Good){m:Nat}(hm:m≤r.hands.toNat){u:List Int}:u∈foundR r (entsL r) m↔∃x∈rrM r ((entsL r).map devR) m,padR x=u:=by
 have hh:=hg.hands
 obtain⟨c1,c2⟩:=comb_set r.hands.toNat (by omega) m (by omega)
 have hp:(2:Nat)^r.hands.toNat≤2^4:=Nat.pow_le_pow_right (by omega) (by omega)
 rw[foundR_mem hg.toHead]
 constructor
 ·rintro⟨s,g1,g2,g3⟩
  obtain⟨k1,k2⟩:=c2 s g1 (by rw[popF_eq _ (by omega)];exact g2)
  rw[← k2,← rRat_truths hg (hcomb_nn k1)] at g3
  obtain⟨x,hx,rfl⟩:=List.mem_map.1 g3
  exact⟨x,List.mem_flatMap.2 ⟨_,k1,hx⟩,rfl⟩
 ·rintro⟨x,hx,rfl⟩
  obtain⟨l,hl,hx⟩:=List.mem_flatMap.1 hx
  obtain⟨g1,g2,_⟩:=c1 l hl
  refine⟨setN l,g1,by rw[← popF_eq _ (by omega)];exact g2,?_⟩
  rw[← rRat_truths hg (hcomb_nn hl)]
  exact List.mem_map.2 ⟨x,hx,rfl⟩
theorem rfew_spec{r:Ros}(hg:r.Good)(hro:rosE r=0) :
  (knownE r []=0∧(rfew r).1=fewL r∧fewL r≠[]∧(∀u,u∈explR r (entsL r)↔∃x∈(rfew r).2,padR x=u))∨(knownE r []=11∧rfew r=([],[])∧fewL r=[]∧explR r (entsL r)=[]):=by
 rcases explR_spec r (entsL r) with⟨e,g⟩ | ⟨m,g1,g2,g3,g4⟩
 ·right
  have hn:∀m,m≤r.hands.toNat→hdue r m=[]:=fun m hm=>(found_due hg.toHead hm).1 (g m hm)
  obtain⟨k1,k2⟩:=fewL_none hg hro hn
  exact⟨k1,rfewF_none _ _ fun j _ hj=>by rw[rlM_due hg];exact hn j (by omega),k2,e⟩
 ·left
  have h1:hdue r m≠[]:=fun c=>g3 ((found_due hg.toHead g1).2 c)
  have h0:∀j,j<m→hdue r j=[]:=fun j hj=>(found_due hg.toHead (by omega)).1 (g4 j hj)
  obtain⟨k1,k2⟩:=fewL_some hg hro g1 h1 h0
  have hf:rfew r=(rlM r ((entsL r).map devR) m,rrM r ((entsL r).map devR) m):=rfewF_some (by rw[rlM_due hg];exact h1) _ _ (by omega) (by omega) fun j _ hj=>by rw[rlM_due hg];exact h0 j hj
  rw[hf]
  refine⟨k1,by rw[k2];exact rlM_due hg m,by rw[k2];exact h1,fun u=>?_⟩
  rw[explR_iff g2]
  exact rrM_mem hg g1
theorem rrM_in{r:Ros}(hr:r.Head){D:List Rng}{m:Nat}{x:List Int}(h:x∈rrM r D m):(x.length:Int)=r.hands∧∀n∈x, -5≤n∧n≤5:=by
 have hh:=hr.hands
 obtain⟨l,_,hx⟩:=List.mem_flatMap.1 h
 obtain⟨h1,h2⟩:=rRat_in hr _ _ _ hx
 refine⟨by simp at h1;omega,fun n hn=>?_⟩
 rcases h2 n hn with g | g
 ·cases g
 ·exact g
theorem rfew_in{r:Ros}(hr:r.Head){x:List Int}(h:x∈(rfew r).2):(x.length:Int)=r.hands∧∀n∈x, -5≤n∧n≤5:=by
 have key:∀n k,(∀x∈(rfewF r ((entsL r).map devR) n k).2,(x.length:Int)=r.hands∧∀n∈x, -5≤n∧n≤5):=by
  intro n
  induction n with
  | zero=>intro k x hx;cases hx
  | succ n ih=>
   intro k x hx
   unfold rfewF at hx
   split at hx
   ·exact ih _ x hx
   ·exact rrM_in hr hx
 exact key _ _ x h
theorem rrM_len{r:Ros}(hr:r.Head){D:List Rng}{m:Nat}(hm:m≤4):(rrM r D m).length≤9200000:=by
 have hh:=hr.hands
 have h1:=hcomb_len4 (n:=r.hands.toNat) (m:=m) (a:=0) (by omega) hm
 have key:∀(L:List (List Int)),(L.flatMap fun l=>rRat r D l r.hands.toNat []).length≤L.length*14641:=by
  intro L
  induction L with
  | nil=>simp
  | cons a L ih=>
   have h2:=rRat_len hr (D:=D) (l:=a) r.hands.toNat []
   have h3:11^r.hands.toNat≤11^4:=Nat.pow_le_pow_right (by omega) (by omega)
   rw[List.flatMap_cons,List.length_append,List.length_cons,Nat.succ_mul]
   omega
 have:=key (hcomb r.hands.toNat m 0)
 unfold rrM
 omega
theorem rfew_len{r:Ros}(hr:r.Head):(rfew r).2.length≤9200000:=by
 have hh:=hr.hands
 have key:∀n k,k+n≤5→(rfewF r ((entsL r).map devR) n k).2.length≤9200000:=by
  intro n
  induction n with
  | zero=>intro k hk;simp[rfewF]
  | succ n ih=>
   intro k hk
   unfold rfewF
   split
   ·exact ih _ (by omega)
   ·exact rrM_len hr (by omega)
 exact key _ _ (by omega)
end Go.Proofs
namespace Go.Proofs
open Go Go.Mu Go.Ins
variable {S:MC Tryz.prog}
theorem rrated_p(r:Ros)(hr:r.Head)(hdy:∀t∈r.ents,0≤t.day∧t.day≤60)(D:List Rng)(hD:D.length=r.ents.length)(hDb:∀d∈D,(-2000000≤d.lo∧d.lo≤2000000)∧ -2000000≤d.hi∧d.hi≤2000000)(l:List Int)(hl:l.length≤1000000) :
  ∀(m:Nat) (b:List Int),(b.length:Int)+m=r.hands→(∀n∈b, -5≤n∧n≤5)→PureV S 108 [r.av,.list .no 2 (D.map Rng.av),ints1 l,ints1 b] (htss (rRat r D l m b)):=by
 intro m
 induction m with
 | zero=>
  intro b hb hbb
  have hex:=rexplained_p (S:=S) r hr hdy D hD hDb b (by omega) hbb
  refine PvE (Tryz.envOK (S:=S) 61 Tryz.ord108 fs421 fs421_ok) (htss_plain _) Tryz.kp108 Tryz.func108 rfl ?_
  intro σ
  unfold rRat
  generalize rExpl r D b=B at *
  have hc:((b.length:Int)=r.hands)=True:=eq_true (by omega)
  simp only[Ros.av,ints1] at hex⊢
  simp -implicitDefEqProofs (maxSteps:=9^9) (disch:=omega) only[go_sem,simprocAttr,hc]
  refine hex _ _ ?_
  cases B
  ·simp -implicitDefEqProofs (maxSteps:=9^9) (disch:=omega) only[go_sem,simprocAttr,htss,ints1,List.map_nil]
  ·simp -implicitDefEqProofs (maxSteps:=9^9) (disch:=omega) only[go_sem,simprocAttr,htss,ints1,List.map_nil]
 | succ m ih=>
  intro b hb hbb
  have hhd:=hr.hands
  have hmn:=hr.mn
  have hlen:=rRat_len hr (D:=D) (l:=l) m
  have h11:11^m≤11^3:=Nat.pow_le_pow_right (by omega) (by omega)
  have hhs:=rhas_p (S:=S) l hl (b.length:Int)
  refine PvE (Tryz.envOK (S:=S) 61 Tryz.ord108 fs421 fs421_ok) (htss_plain _) Tryz.kp108 Tryz.func108 rfl ?_
  intro σ
  have hc:((b.length:Int)=r.hands)=False:=eq_false (by omega)
  by_cases h:l.contains (b.length:Int)=true
  ·have e:rRat r D l (m+1) b=(List.range (r.mx-r.mn+1).toNat).flatMap fun(k:Nat)=>if r.mn+k=0 then[] else rRat r D l m (b++[r.mn+k]):=by
    show(if l.contains (b.length:Int) then _ else _)=_
    rw[if_pos h]
   rw[e]
   rw[h] at hhs
   have hbd:∀i,i≤11→((List.range i).flatMap fun(k:Nat)=>if r.mn+k=0 then[] else rRat r D l m (b++[r.mn+k])).length≤i*1331:=fun i hi=>fmLen (fun k=>by
    split
    ·simp
    ·exact Nat.le_trans (hlen _) h11) i
   clear e hlen
   obtain⟨F,hF⟩:∃F:Nat→List (List Int),F=fun(k:Nat)=>if r.mn+k=0 then[] else rRat r D l m (b++[r.mn+k]):=⟨_,rfl⟩
   rw[← hF] at hbd⊢
   simp only[Ros.av,ints1] at hhs⊢
   simp -implicitDefEqProofs (maxSteps:=9^9) (disch:=omega) only[go_sem,simprocAttr,hc]
   refine hhs _ _ ?_
   simp -implicitDefEqProofs (maxSteps:=9^9) (disch:=omega) only[go_sem,simprocAttr]
   refine ARun.ghost 9 1 (sz0:=0) rfl (by simp[lookA]) ?_
   simp only[ins,↓reduceIte,List.append_assoc,List.cons_append,List.nil_append,List.length_append,List.length_cons,List.length_nil,Nat.zero_add,Nat.reduceEqDiff,Nat.reduceAdd]
   refine ARun.forS (Tryz.envOK (S:=S) 61 Tryz.ord108 fs421 fs421_ok) (r.mx-r.mn+1).toNat (fun _=>True) (fun i=>[(9,.list (.own (σ.length+1)) 1 (((List.range i).flatMap F).map ints1)),(10,.int .i64 (r.mn+i))]) (fun i j=>σ++(.cells [.int .i64 r.hands,.int .i64 r.skill,.int .i64 r.mn,.int .i64 r.mx,.list .no 2 (r.sets.map Sg.av),.list .no 6 (r.ents.map Tn.av)]:: .tail ((List.range i).flatMap F).length 1::j)) [] (by kernel_rfl) (by simp) (by simp[upd,ins,subF,lookA]) trivial ?_ ?_
   ·intro i j hi _ ih2
    have hb2:=hbd i (by omega)
    have hle:(r.mn+(i:Int)≤r.mx)=True:=eq_true (by omega)
    have hwi:IntKind.i64.wrap (r.mn+(i:Int)+1)=r.mn+((i+1:Nat):Int):=by rw[wrap64 (by omega) (by omega)];omega
    have hfs:(List.range (i+1)).flatMap F=(List.range i).flatMap F++F i:=by rw[List.range_succ,List.flatMap_append];simp
    rw[hfs] at ih2
    clear hfs
    generalize (List.range i).flatMap F=B at hb2 ih2⊢
    by_cases h0:r.mn+(i:Int)=0
    ·have h0':(r.mn+(i:Int)=0)=True:=eq_true h0
     have hFi:F i=[]:=by rw[hF];exact if_pos h0
     rw[hFi,List.append_nil] at ih2
     simp -implicitDefEqProofs (maxSteps:=9^9) (disch:=omega) only[go_sem,simprocAttr,hle,h0',hwi]
     exact(ih2 trivial j).castS rfl (by simp[upd,ins,subF,lookA])
    ·have h0':(r.mn+(i:Int)=0)=False:=eq_false h0
     have hFi:F i=rRat r D l m (b++[r.mn+i]):=by rw[hF];exact if_neg h0
     have hFl:(F i).length≤1331:=by rw[hFi];exact Nat.le_trans (rRat_len hr m _) h11
     have ih':=ih (b++[r.mn+i]) (by simp;omega) (fun n hn=>by
      rcases List.mem_append.1 hn with hn | hn
      ·exact hbb n hn
      ·simp at hn;omega)
     rw[← hFi] at ih'
     simp only[Ros.av,ints1,List.map_append,List.map_cons,List.map_nil] at ih'
     clear hFi hF
     generalize F i=C at hFl ih2 ih'
     simp -implicitDefEqProofs (maxSteps:=9^9) (disch:=omega) only[go_sem,simprocAttr,hle,h0',hwi]
     refine ACalls.weaken (l':=[.agg [.int .i64 r.hands,.int .i64 r.skill,.int .i64 r.mn,.int .i64 r.mx,.list .no 2 (r.sets.map Sg.av),.list .no 6 (r.ents.map Tn.av)],.list .no 2 (D.map Rng.av),.list .no 1 (l.map (AV.int .i64)),.list .no 1 (b.map (AV.int .i64)++[AV.int .i64 (r.mn+(i:Int))])]) ⟨⟨rfl,rfl,rfl,rfl,⟨rfl,.inl rfl,.inl rfl⟩,⟨rfl,.inl rfl,.inl rfl⟩,trivial⟩,⟨rfl,.inl rfl,.inl rfl⟩,⟨rfl,.inl rfl,.inl rfl⟩,⟨rfl,.inl rfl,.inl rfl⟩,trivial⟩ (ih' _ _ ?_)
     simp only[htss]
     simp -implicitDefEqProofs (maxSteps:=9^9) (disch:=omega) only[go_sem,simprocAttr,hwi]
     exact(ih2 trivial (j++[.tail (b.length+1) 1])).castS (by simp) (by simp[upd,ins,subF,lookA])
   ·intro j _
    have hle:(r.mn+(((r.mx-r.mn+1).toNat:Nat):Int)≤r.mx)=False:=eq_false (by omega)
    generalize (List.range (r.mx-r.mn+1).toNat).flatMap F=B
    simp -implicitDefEqProofs (maxSteps:=9^9) (disch:=omega) only[go_sem,simprocAttr,hle,htss]
  ·have e:rRat r D l (m+1) b=rRat r D l m (b++[0]):=by
    show(if l.contains (b.length:Int) then _ else _)=_
    rw[if_neg h]
   rw[e]
   rw[Bool.eq_false_iff.2 h] at hhs
   have ih':=ih (b++[0]) (by simp;omega) (fun n hn=>by
    rcases List.mem_append.1 hn with hn | hn
    ·exact hbb n hn
    ·simp at hn;omega)
   have hRl:=hlen (b++[0])
   generalize rRat r D l m (b++[0])=C at *
   simp only[Ros.av,ints1,List.map_append,List.map_cons,List.map_nil] at hhs ih'⊢
   simp -implicitDefEqProofs (maxSteps:=9^9) (disch:=omega) only[go_sem,simprocAttr,hc]
   refine hhs _ _ ?_
   simp -implicitDefEqProofs (maxSteps:=9^9) (disch:=omega) only[go_sem,simprocAttr]
   refine ACalls.weaken (l':=[.agg [.int .i64 r.hands,.int .i64 r.skill,.int .i64 r.mn,.int .i64 r.mx,.list .no 2 (r.sets.map Sg.av),.list .no 6 (r.ents.map Tn.av)],.list .no 2 (D.map Rng.av),.list .no 1 (l.map (AV.int .i64)),.list .no 1 (b.map (AV.int .i64)++[AV.int .i64 0])]) ⟨⟨rfl,rfl,rfl,rfl,⟨rfl,.inl rfl,.inl rfl⟩,⟨rfl,.inl rfl,.inl rfl⟩,trivial⟩,⟨rfl,.inl rfl,.inl rfl⟩,⟨rfl,.inl rfl,.inl rfl⟩,⟨rfl,.inl rfl,.inl rfl⟩,trivial⟩ (ih' _ _ ?_)
   simp only[htss]
   simp -implicitDefEqProofs (maxSteps:=9^9) (disch:=omega) only[go_sem,simprocAttr]
theorem rlists_p(n:Nat)(hn:n≤4):∀(m a:Nat),m≤4→a≤5→PureV S 154 [.int .i64 a,.int .i64 n,.int .i64 m] (htss (hcomb n m a)):=by
 intro m
 induction m with
 | zero=>
  intro a hm ha
  refine PvE (Tryz.envOK (S:=S) 43 (fun _=>([],[])) fs0 fs0_ok) (htss_plain _) Tryz.kp154 Tryz.func154 rfl ?_
  intro σ
  simp -implicitDefEqProofs (maxSteps:=9^9) (disch:=omega) only[go_sem,simprocAttr,htss,hcomb,ints1,List.map_nil]
 | succ m ih=>
  intro a hm ha
  refine PvE (Tryz.envOK (S:=S) 43 (fun _=>([],[])) fs0 fs0_ok) (htss_plain _) Tryz.kp154 Tryz.func154 rfl ?_
  intro σ
  rw[hcomb_succ]
  have hbd:∀i,((List.range i).flatMap (hcombK n m a)).length≤i*625:=fun i=>fmLen (fun k=>by unfold hcombK;rw[List.length_map];exact hcomb_len4 hn (by omega)) i
  simp -implicitDefEqProofs (maxSteps:=9^9) (disch:=omega) only[go_sem,simprocAttr]
  refine ARun.ghost 7 1 (sz0:=0) rfl (by simp[lookA]) ?_
  simp only[ins,↓reduceIte,List.append_assoc,List.cons_append,List.nil_append,List.length_append,List.length_cons,List.length_nil,Nat.zero_add,Nat.reduceEqDiff,Nat.reduceAdd]
  refine ARun.forS (Tryz.envOK (S:=S) 43 (fun _=>([],[])) fs0 fs0_ok) (n-a) (fun _=>True) (fun i=>[(7,.list (.own σ.length) 1 (((List.range i).flatMap (hcombK n m a)).map ints1)),(8,.int .i64 ((a:Int)+i))]) (fun i j=>σ++(.tail ((List.range i).flatMap (hcombK n m a)).length 1::j)) [] (by kernel_rfl) (by simp) (by simp[upd,ins,subF,lookA]) trivial ?_ ?_
  ·intro i j hi _ ih2
   have hb:=hbd i
   have hC:(hcomb n m (a+i+1)).length≤625:=hcomb_len4 hn (by omega)
   have ih':=ih (a+i+1) (by omega) (by omega)
   have hfs:(List.range (i+1)).flatMap (hcombK n m a)=(List.range i).flatMap (hcombK n m a)++hcombK n m a i:=by rw[List.range_succ,List.flatMap_append];simp
   rw[hfs] at ih2
   have hK:hcombK n m a i=(hcomb n m (a+i+1)).map fun l=>((a+i:Nat):Int)::l:=rfl
   rw[hK,show((a+i:Nat):Int)=(a:Int)+i by omega] at ih2
   rw[show((a+i+1:Nat):Int)=(a:Int)+i+1 by omega] at ih'
   have hel:∀l∈hcomb n m (a+i+1),l.length≤6:=fun l hl=>by rw[(hcomb_mem hl).1];omega
   clear hK hbd ih hfs
   generalize (List.range i).flatMap (hcombK n m a)=B at hb ih2⊢
   generalize hcomb n m (a+i+1)=C at hC ih2 ih' hel
   have hb2:B.length≤10000:=by omega
   clear hb
   simp -implicitDefEqProofs (maxSteps:=9^9) (disch:=omega) only[go_sem,simprocAttr,Int.add_sub_cancel]
   refine ih' _ _ ?_
   simp only[htss]
   simp -implicitDefEqProofs (maxSteps:=9^9) (disch:=omega) only[go_sem,simprocAttr]
   refine ARun.forS (Tryz.envOK (S:=S) 43 (fun _=>([],[])) fs0 fs0_ok) C.length (fun _=>True) (fun k=>[(7,.list (.own σ.length) 1 ((B++(C.take k).map fun l=>((a:Int)+i)::l).map ints1)),(10,.int .i64 k)]) (fun k j2=>σ++(.tail (B++(C.take k).map fun l=>((a:Int)+i)::l).length 1::(j++j2))) [] (by kernel_rfl) (by simp) (by simp[upd,ins,subF,lookA]) trivial ?_ ?_
   ·intro k j2 hk _ ih3
    have hCk:idx (C.map ints1) (k:Int)=some (ints1 C[k]):=idx_nat hk
    have hl:=hel _ (List.getElem_mem hk)
    have hDl:(B++(C.take k).map fun l=>((a:Int)+i)::l).length≤20000:=by rw[List.length_append,List.length_map,List.length_take];omega
    have hst:(B++(C.take (k+1)).map fun l=>((a:Int)+i)::l)=(B++(C.take k).map fun l=>((a:Int)+i)::l)++[((a:Int)+i)::C[k]]:=by
     rw[List.take_succ_eq_append_getElem hk,List.map_append,← List.append_assoc];rfl
    rw[hst] at ih3
    clear hst
    generalize (B++(C.take k).map fun l=>((a:Int)+i)::l)=D at hDl ih3⊢
    generalize C[k]=T at hCk hl ih3
    simp only[ints1] at hCk
    clear ih' ih2 hel
    simp -implicitDefEqProofs (maxSteps:=9^9) (disch:=omega) only[go_sem,simprocAttr,hCk]
    exact(ih3 trivial (j2++[.tail (1+T.length) 1])).castS (by simp) (by simp[upd,ins,subF,lookA,ints1])
   ·intro j2 _
    rw[List.take_length]
    generalize (B++C.map fun l=>((a:Int)+i)::l)=D at ih2⊢
    simp -implicitDefEqProofs (maxSteps:=9^9) (disch:=omega) only[go_sem,simprocAttr]
    exact(ih2 trivial (j++j2)).castS rfl (by simp[upd,ins,subF,lookA,Int.add_assoc])
  ·intro j _
   generalize (List.range (n-a)).flatMap (hcombK n m a)=B
   have e:(a:Int)+((n-a:Nat):Int)=if a≤n then(n:Int) else a:=by split<;> omega
   simp -implicitDefEqProofs (maxSteps:=9^9) (disch:=omega) only[go_sem,simprocAttr,htss]
theorem htss2_plain(A B:List (List Int)):Plain (.tup [htss A,htss B]):= .tup (by simp only[List.mem_cons,List.not_mem_nil,or_false,forall_eq_or_imp,forall_eq];exact⟨htss_plain _,htss_plain _⟩)
theorem devs_in{r:Ros}(hg:r.Good):∀d∈(entsL r).map devR,(-2000000≤d.lo∧d.lo≤2000000)∧ -2000000≤d.hi∧d.hi≤2000000:=fun d hd=>by
 obtain⟨l,hl,rfl⟩:=List.mem_map.1 hd
 obtain⟨x,hx,rfl⟩:=List.mem_map.1 (show l∈r.ents.map fun x=>(chkE x r.hands).1 from hl)
 obtain⟨a,b,e1,e2,e3,e4⟩:=hg.devR hx
 have hdu:=(hg.ent x hx).2.2.1
 rw[e2]
 simp only
 omega
theorem rfewest_p(r:Ros)(hg:r.Good)(hf:r.Fit):PureV S 110 [r.av] (.tup [htss (rfew r).1,htss (rfew r).2]):=by
 have hdv:=rdeviations_p (S:=S) r hg hf.ear
 have hrt:=fun l hl=>rrated_p (S:=S) r hg.toHead (fun t ht=>(hg.ent t ht).1) ((entsL r).map devR) (by rw[List.length_map,entsL_len]) (devs_in hg) l hl r.hands.toNat [] (by have:=hg.hands;simp;omega) (by simp)
 have hh:=hg.hands
 have hlen:=fun l=>rRat_len hg.toHead (D:=(entsL r).map devR) (l:=l) r.hands.toNat []
 have h11:11^r.hands.toNat≤11^4:=Nat.pow_le_pow_right (by omega) (by omega)
 have hH:(r.hands.toNat:Int)=r.hands:=by omega
 refine PvE (Tryz.envOK (S:=S) 54 Tryz.ord110 fs421 fs421_ok) (htss2_plain _ _) Tryz.kp110 Tryz.func110 rfl ?_
 intro σ
 have hrf:rfew r=rfewF r ((entsL r).map devR) (r.hands.toNat+1) 0:=rfl
 rw[hrf]
 clear hrf
 generalize (entsL r).map devR=D at *
 simp only[Ros.av] at hdv hrt⊢
 simp -implicitDefEqProofs (maxSteps:=9^9) (disch:=omega) only[go_sem,simprocAttr]
 refine hdv _ _ ?_
 simp -implicitDefEqProofs (maxSteps:=9^9) (disch:=omega) only[go_sem,simprocAttr]
 obtain⟨σ1,hσ1⟩:∃σ1,σ1=σ++[AObj.cells [.int .i64 r.hands,.int .i64 r.skill,.int .i64 r.mn,.int .i64 r.mx,.list .no 2 (r.sets.map Sg.av),.list .no 6 (r.ents.map Tn.av)]]:=⟨_,rfl⟩
 have hr0:∀j,hget (σ1++j) σ.length=some (.cells [.int .i64 r.hands,.int .i64 r.skill,.int .i64 r.mn,.int .i64 r.mx,.list .no 2 (r.sets.map Sg.av),.list .no 6 (r.ents.map Tn.av)]):=fun j=>by rw[hσ1,List.append_assoc];exact hget_at0
 have hfin:∀j2,∃junk,σ1++j2=σ++junk:=fun j2=>⟨_::j2,by rw[hσ1,List.append_assoc];rfl⟩
 rw[← hσ1]
 clear hσ1
 generalize σ.length=q at hr0⊢
 refine ARun.forS (Tryz.envOK (S:=S) 54 Tryz.ord110 fs421 fs421_ok) (r.hands.toNat+1) (fun i=>rfewF r D (r.hands.toNat+1) 0=rfewF r D (r.hands.toNat+1-i) i) (fun i=>[(5,.int .i64 i)]) (fun _ j=>σ1++j) [] (by kernel_rfl) (by simp) (by simp[upd,ins,subF,lookA]) rfl ?_ ?_
 ·intro i j hi hP ih
  have hiH:((i:Int)≤r.hands)=True:=eq_true (by omega)
  have hwi:IntKind.i64.wrap ((i:Int)+1)=((i+1:Nat):Int):=by rw[wrap64 (by omega) (by omega)];rfl
  have hPs:rfewF r D (r.hands.toNat+1-i) i=if rlM r D i=[] then rfewF r D (r.hands.toNat-i) (i+1) else(rlM r D i,rrM r D i):=by
   rw[show r.hands.toNat+1-i=(r.hands.toNat-i)+1 by omega];rfl
  rw[hPs] at hP
  rw[show r.hands.toNat+1- (i+1)=r.hands.toNat-i by omega] at ih
  clear hPs
  simp -implicitDefEqProofs (maxSteps:=9^9) (disch:=omega) only[go_sem,simprocAttr,hr0,hiH]
  have hcp:=fun σ Q=>rlists_p (S:=S) r.hands.toNat (by omega) i 0 (by omega) (by omega) σ Q
  rw[hH] at hcp
  refine hcp _ _ ?_
  have hl1:rlM r D i=(hcomb r.hands.toNat i 0).filter fun l=>decide (rRat r D l r.hands.toNat []≠[]):=rfl
  have hl2:rrM r D i=(hcomb r.hands.toNat i 0).flatMap fun l=>rRat r D l r.hands.toNat []:=rfl
  have hC:=hcomb_len4 (n:=r.hands.toNat) (m:=i) (a:=0) (by omega) (by omega)
  have hCm:=fun x hx=>@hcomb_mem r.hands.toNat i 0 x hx
  generalize hcomb r.hands.toNat i 0=C at hC hl1 hl2 hCm⊢
  obtain⟨f,hfd⟩:∃f:List Int→List (List Int),f=fun l=>rRat r D l r.hands.toNat []:=⟨_,rfl⟩
  have hfe:∀l,rRat r D l r.hands.toNat []=f l:=fun l=>by rw[hfd]
  simp only[hfe] at hl1 hl2 hrt hlen
  clear hfe hfd hcp
  simp only[htss]
  simp -implicitDefEqProofs (maxSteps:=9^9) (disch:=omega) only[go_sem,simprocAttr]
  refine ARun.ghost 6 1 (sz0:=0) rfl (by simp[lookA]) ?_
  simp only[ins,↓reduceIte,List.append_assoc,List.cons_append,List.nil_append,List.length_append,List.length_cons,List.length_nil,Nat.zero_add,Nat.reduceEqDiff,Nat.add_assoc,Nat.reduceAdd]
  refine ARun.ghost 7 1 (sz0:=0) rfl (by simp[lookA]) ?_
  simp only[ins,↓reduceIte,List.append_assoc,List.cons_append,List.nil_append,List.length_append,List.length_cons,List.length_nil,Nat.zero_add,Nat.reduceEqDiff,Nat.add_assoc,Nat.reduceAdd]
  have hDl:∀k,((C.take k).filter fun l=>decide (f l≠[])).length≤625:=fun k=>Nat.le_trans (List.length_filter_le _ _) (by rw[List.length_take];omega)
  have hEl:∀k,((C.take k).flatMap f).length≤9200000:=fun k=>by
   have key:∀(L:List (List Int)),(L.flatMap f).length≤L.length*14641:=by
    intro L
    induction L with
    | nil=>simp
    | cons a L ih=>
     have h2:=hlen a
     rw[List.flatMap_cons,List.length_append,List.length_cons,Nat.succ_mul]
     omega
   have:=key (C.take k)
   rw[List.length_take] at this
   omega
  refine ARun.forS (Tryz.envOK (S:=S) 54 Tryz.ord110 fs421 fs421_ok) C.length (fun _=>True) (fun k=>[(6,.list (.own (σ1.length+j.length)) 1 (((C.take k).filter fun l=>decide (f l≠[])).map ints1)),(7,.list (.own (σ1.length+(j.length+1))) 1 (((C.take k).flatMap f).map ints1)),(9,.int .i64 k)]) (fun k j2=>σ1++(j++(.tail ((C.take k).filter fun l=>decide (f l≠[])).length 1:: .tail ((C.take k).flatMap f).length 1::j2))) [] (by kernel_rfl) (by simp) (by simp[upd,ins,subF,lookA]) trivial ?_ ?_
  ·intro k j2 hk _ ih2
   have hidx:idx (C.map ints1) (k:Int)=some (ints1 C[k]):=idx_nat hk
   obtain⟨e1,e2,e3⟩:=hCm _ (List.getElem_mem hk)
   have hDk:=hDl k
   have hEk:=hEl k
   have hst:(C.take (k+1)).filter (fun l=>decide (f l≠[]))=(C.take k).filter (fun l=>decide (f l≠[]))++if f C[k]≠[] then[C[k]] else[]:=by
    rw[List.take_succ_eq_append_getElem hk,List.filter_append,List.filter_cons,List.filter_nil]
    simp only[decide_eq_true_eq]
   have hst2:(C.take (k+1)).flatMap f=(C.take k).flatMap f++f C[k]:=by
    rw[List.take_succ_eq_append_getElem hk,List.flatMap_append];simp
   rw[hst,hst2] at ih2
   clear hst hst2 hDl hEl hl1 hl2
   have hxp:=hrt C[k] (by omega)
   have hfl:=hlen C[k]
   generalize (C.take k).filter (fun l=>decide (f l≠[]))=D1 at hDk ih2⊢
   generalize (C.take k).flatMap f=D2 at hEk ih2⊢
   generalize C[k]=x at *
   generalize f x=fx at *
   have hwk:IntKind.i64.wrap ((k:Int)+1)=((k+1:Nat):Int):=by rw[wrap64 (by omega) (by omega)];rfl
   simp only[ints1,htss] at hxp
   simp -implicitDefEqProofs (maxSteps:=9^9) (disch:=omega) only[go_sem,simprocAttr,hr0,hidx,ints1]
   refine ACalls.weaken (l':=[.agg [.int .i64 r.hands,.int .i64 r.skill,.int .i64 r.mn,.int .i64 r.mx,.list .no 2 (r.sets.map Sg.av),.list .no 6 (r.ents.map Tn.av)],.list .no 2 (D.map Rng.av),.list .no 1 (x.map (AV.int .i64)),.list .no 1 (([]:List Int).map (AV.int .i64))]) ⟨⟨rfl,rfl,rfl,rfl,⟨rfl,.inl rfl,.inl rfl⟩,⟨rfl,.inl rfl,.inl rfl⟩,trivial⟩,⟨rfl,.inl rfl,.inl rfl⟩,⟨rfl,.inl rfl,.inl rfl⟩,⟨rfl,.inr rfl,.inl rfl⟩,trivial⟩ (hxp _ _ ?_)
   by_cases ht:fx=[]
   ·subst ht
    simp only[ne_eq,not_true_eq_false,↓reduceIte,List.append_nil] at ih2
    simp -implicitDefEqProofs (maxSteps:=9^9) (disch:=omega) only[go_sem,simprocAttr,hr0,hidx,ints1,hwk]
    exact(ih2 trivial j2).castS (by simp) (by simp[upd,ins,subF,lookA,ints1])
   ·have hpos:0<fx.length:=List.length_pos_iff.2 ht
    have hpos':(0<(fx.length:Int))=True:=eq_true (by omega)
    have hml:(fx.map fun x=>AV.list .no 1 (x.map (.int .i64))).length=fx.length:=by simp
    rw[if_pos ht] at ih2
    simp -implicitDefEqProofs (maxSteps:=9^9) (disch:=omega) only[go_sem,simprocAttr,hr0,hidx,ints1,hwk,hpos',hml]
    exact(ih2 trivial j2).castS (by simp) (by simp[upd,ins,subF,lookA,ints1])
  ·intro j2 _
   have hDk:=hDl C.length
   have hEk:=hEl C.length
   rw[List.take_length] at hDk hEk⊢
   rw[← hl1] at hDk⊢
   rw[← hl2] at hEk⊢
   have hml:((rlM r D i).map ints1).length=(rlM r D i).length:=by simp
   by_cases hne:rlM r D i=[]
   ·rw[if_pos hne] at hP
    have hz:(0<((rlM r D i).length:Int))=False:=eq_false (by rw[hne];simp)
    simp -implicitDefEqProofs (maxSteps:=9^9) (disch:=omega) only[go_sem,simprocAttr,hr0,hwi,hml,hz]
    exact(ih hP (j++(.tail (rlM r D i).length 1:: .tail (rrM r D i).length 1::j2))).castS (by simp) (by simp[upd,ins,subF,lookA])
   ·rw[if_neg hne] at hP
    rw[hP]
    have hpos:0<(rlM r D i).length:=List.length_pos_iff.2 hne
    have hz:(0<((rlM r D i).length:Int))=True:=eq_true (by omega)
    simp -implicitDefEqProofs (maxSteps:=9^9) (disch:=omega) only[go_sem,simprocAttr,hr0,hwi,hml,hz,htss]
    exact⟨hfin _,by simp[wk,wkL,wk1,wk0]⟩
 ·intro j hP
  have hiH:(((r.hands.toNat+1:Nat):Int)≤r.hands)=False:=eq_false (by omega)
  rw[Nat.sub_self] at hP
  rw[hP]
  simp -implicitDefEqProofs (maxSteps:=9^9) (disch:=omega) only[go_sem,simprocAttr,hr0,hiH,rfewF,htss]
  exact⟨hfin _,by simp[wk,wkL,wk1,wk0]⟩
/-! The reference's known, Fewest, Explains. -/
def rkn(r:Ros):List (List Int)×List (List Int):=if knownE r []=0 then rfew r else([],[])
theorem ros_good{r:Ros}(h:rosE r=0):r.Good∧headE r=0∧entsE r=0:=by
 have hh:headE r=0:=Classical.byContradiction fun c=>by unfold rosE at h;rw[if_pos c] at h;exact c h
 have he:entsE r=0:=by unfold rosE at h;rw[if_neg (fun c=>c hh)] at h;exact h
 exact⟨Ros.good_of hh he,hh,he⟩
theorem known_ros{r:Ros}(h:rosE r≠0):knownE r []=rosE r:=by unfold knownE;rw[if_pos h]
theorem rkn1(r:Ros):(rkn r).1=fewL r:=by
 unfold rkn
 by_cases hk:knownE r []=0
 ·rw[if_pos hk]
  have hro:rosE r=0:=Classical.byContradiction fun c=>by rw[known_ros c] at hk;exact c hk
  rcases rfew_spec (ros_good hro).1 hro with⟨_,h,_⟩ | ⟨h,_⟩
  ·exact h
  ·rw[hk] at h;cases h
 ·rw[if_neg hk];unfold fewL;rw[if_neg hk]
theorem htss3_plain(A B:List (List Int))(e:Int):Plain (.tup [htss A,htss B,.int .i64 e]):= .tup (by simp only[List.mem_cons,List.not_mem_nil,or_false,forall_eq_or_imp,forall_eq];exact⟨htss_plain _,htss_plain _,.int⟩)
theorem rknown_p(r:Ros)(hf:r.Fit):PureV S 97 [r.av] (.tup [htss (rkn r).1,htss (rkn r).2,.int .i64 (knownE r [])]):=by
 have hc:=rCheck11_p (S:=S) r hf.sets hf.ents hf.ear
 rw[rosR_eq] at hc
 by_cases hro:rosE r=0
 ·obtain⟨hg,_,_⟩:=ros_good hro
  have hfw:=rfewest_p (S:=S) r hg hf
  rw[hro] at hc
  rcases rfew_spec hg hro with⟨hk,h1,h2,_⟩ | ⟨hk,h1,_,_⟩
  ·have e:rkn r=rfew r:=if_pos hk
   have hne:(rfew r).1≠[]:=by rw[h1];exact h2
   rw[e,hk]
   generalize (rfew r).1=A at *
   generalize (rfew r).2=B at *
   have hz:((A.length:Int)=0)=False:=eq_false (by have:=List.length_pos_iff.2 hne;omega)
   have hml:(A.map ints1).length=A.length:=by simp
   refine PvE (Tryz.envOK (S:=S) 23 (fun _=>([],[])) fs421 fs421_ok) (htss3_plain _ _ _) Tryz.kp97 Tryz.func97 rfl ?_
   intro σ
   simp only[Ros.av,htss] at hc hfw⊢
   simp -implicitDefEqProofs (maxSteps:=9^9) (disch:=omega) only[go_sem,simprocAttr]
   refine hc _ _ ?_
   simp -implicitDefEqProofs (maxSteps:=9^9) (disch:=omega) only[go_sem,simprocAttr]
   refine hfw _ _ ?_
   simp -implicitDefEqProofs (maxSteps:=9^9) (disch:=omega) only[go_sem,simprocAttr,hz,hml]
  ·have e:rkn r=([],[]):=if_neg (by rw[hk];decide)
   rw[e,hk]
   rw[h1] at hfw
   refine PvE (Tryz.envOK (S:=S) 23 (fun _=>([],[])) fs421 fs421_ok) (htss3_plain _ _ _) Tryz.kp97 Tryz.func97 rfl ?_
   intro σ
   simp only[Ros.av,htss,List.map_nil] at hc hfw⊢
   simp -implicitDefEqProofs (maxSteps:=9^9) (disch:=omega) only[go_sem,simprocAttr]
   refine hc _ _ ?_
   simp -implicitDefEqProofs (maxSteps:=9^9) (disch:=omega) only[go_sem,simprocAttr]
   refine hfw _ _ ?_
   simp -implicitDefEqProofs (maxSteps:=9^9) (disch:=omega) only[go_sem,simprocAttr]
 ·have e:rkn r=([],[]):=if_neg (by rw[known_ros hro];exact hro)
  rw[e,known_ros hro]
  generalize rosE r=q at *
  have hro':(q=0)=False:=eq_false hro
  refine PvE (Tryz.envOK (S:=S) 23 (fun _=>([],[])) fs421 fs421_ok) (htss3_plain _ _ _) Tryz.kp97 Tryz.func97 rfl ?_
  intro σ
  simp only[Ros.av,htss,List.map_nil] at hc⊢
  simp -implicitDefEqProofs (maxSteps:=9^9) (disch:=omega) only[go_sem,simprocAttr]
  refine hc _ _ ?_
  simp -implicitDefEqProofs (maxSteps:=9^9) (disch:=omega) only[go_sem,simprocAttr,hro']
end Go.Proofs
