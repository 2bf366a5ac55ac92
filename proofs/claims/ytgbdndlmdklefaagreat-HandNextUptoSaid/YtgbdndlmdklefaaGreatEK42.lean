/- Texts of a proof: lemmas. -/
import Derived.Test.YtgbdndlmdklefaaGreatEK40
import Derived.Test.YtgbdndlmdklefaaGreatEK38
import Derived.Test.YtgbdndlmdklefaaGreatEK37
import Derived.Test.YtgbdndlmdklefaaGreatEK41
import Derived.Test.YtgbdndlmdklefaaGreatEK39
set_option linter.unusedSimpArgs false
set_option linter.unusedVariables false
set_option maxRecDepth 100000
set_option maxHeartbeats 40000000
namespace Go.Proofs
open Go Go.Mu Go.Ins
variable {S:MC Tryz.prog}
/-! With, whatever is asked: the reference's. -/
def withE(r:Ros)(x:Tn):Int:=if rosE r≠0 then rosE r else if 5≤r.ents.length then 6 else if(chkE x r.hands).2≠0 then(chkE x r.hands).2 else knownE (r.snoc x) []
def withRos(r:Ros)(x:Tn):Ros:=if withE r x=0 then r.snoc x else⟨0,0,0,0,[],[]⟩
theorem _root_.Go.Mu.ARun.cellW{E:Env}{ro:Option Nat}{todo:List Item}{fr:Fr}{σ:List AObj}{Q:Post}(r:Nat){cs cs':List AV}(hg:hget σ r=some (.cells cs))(hw:WeakL cs cs')(h:ARun E ro todo fr (hset σ r (.cells cs')) Q):ARun E ro todo fr σ Q:=by
 refine h.mind fun K w tmps hR hF=>?_
 obtain⟨cc,T,h1,h2,h3,h4⟩:=hR.obj r _ hg
 obtain⟨s1,s2⟩:=hR.turn (o':= .cells cs') hg (K.φ r) rfl K (.refl _ _) (fun _ _=>rfl) (fun _ _=>rfl) rfl (fun _ _ _=>rfl) (fun p v hv=>hR.stab _ _ _ hv) (fun b hb=>hb) ⟨cc,T,h1,h2.weakW hw,h3,h4⟩ rfl rfl rfl
 exact⟨K,s1,by rw[length_hset];exact hF,s2⟩
theorem snoc_good{r:Ros}{x:Tn}(hg:r.Good)(he:entsE r=0)(hl:r.ents.length≤4)(hx:(chkE x r.hands).2=0):headE (r.snoc x)=0∧entsE (r.snoc x)=0:=by
 have h1:=hg.hands
 have h2:=hg.skill
 have h3:=hg.mn
 have h5:=hg.setl
 have hs:firstE (setE r.hands) r.sets=0:=hfirstE_of fun s hs=>by
  have:=hg.set s hs
  unfold setE
  rw[if_neg (by omega),if_neg (by omega)]
 have h6:(r.snoc x).ents.length≤5:=by show(r.ents++[x]).length≤5;simp;omega
 constructor
 ·unfold headE
  rw[if_neg (show¬_ by show¬_;simp only[Ros.snoc];omega),if_neg (by simp only[Ros.snoc];omega),if_neg (by simp only[Ros.snoc];omega),if_neg (fun c=>c hs),if_neg (by omega)]
 ·unfold entsE
  refine firstNZ_zero fun e he2=>?_
  obtain⟨y,hy,rfl⟩:=List.mem_map.1 he2
  rcases List.mem_append.1 (show y∈r.ents++[x] from hy) with hy | hy
  ·exact firstNZ_all he _ (List.mem_map.2 ⟨y,hy,rfl⟩)
  ·simp at hy;subst hy;exact hx
theorem ros_plain2(r:Ros)(e:Int):Plain (.tup [r.av,.int .i64 e]):= .tup (by simp only[List.mem_cons,List.not_mem_nil,or_false,forall_eq_or_imp,forall_eq];exact⟨r.plain,.int⟩)
theorem rWith_p(r:Ros)(hf:r.Fit)(x:Tn)(hx1:x.ear.tones.length≤1000000)(hx2:x.ear.rds.length≤1000000):PureV S 75 [r.av,x.av] (.tup [(withRos r x).av,.int .i64 (withE r x)]):=by
 have hc:=rCheck11_p (S:=S) r hf.sets hf.ents hf.ear
 have hce:=rEnt_p (S:=S) r x hx1 hx2
 rw[rosR_eq] at hc
 have hwE:withE r x=if rosE r≠0 then rosE r else if 5≤r.ents.length then 6 else if(chkE x r.hands).2≠0 then(chkE x r.hands).2 else knownE (r.snoc x) []:=rfl
 have hwR:withRos r x=if withE r x=0 then r.snoc x else⟨0,0,0,0,[],[]⟩:=rfl
 refine PvE (Tryz.envOK (S:=S) 90 Tryz.ord75 fs422 fs422_ok) (ros_plain2 _ _) Tryz.kp75 Tryz.func75 rfl ?_
 intro σ
 by_cases h1:rosE r=0
 ·rw[if_neg (fun c=>c h1)] at hwE
  rw[h1] at hc
  obtain⟨hg,_,hen⟩:=ros_good h1
  have hh:=hg.hands
  have hsl:=hg.setl
  rw[rEnt_eq hh] at hce
  by_cases h2:5≤r.ents.length
  ·rw[if_pos h2] at hwE
   rw[hwR,hwE,if_neg (by decide)]
   have h2':(5≤(r.ents.length:Int))=True:=eq_true (by omega)
   simp only[Ros.av,Tn.av,Tn.cells,List.map_nil] at hc hce⊢
   simp -implicitDefEqProofs (maxSteps:=9^9) (disch:=omega) only[go_sem,simprocAttr]
   refine hc _ _ ?_
   simp -implicitDefEqProofs (maxSteps:=9^9) (disch:=omega) only[go_sem,simprocAttr,h2']
  ·have h2':(5≤(r.ents.length:Int))=False:=eq_false (by omega)
   rw[if_neg h2] at hwE
   by_cases h3:(chkE x r.hands).2=0
   ·rw[if_neg (fun c=>c h3)] at hwE
    rw[h3] at hce
    obtain⟨hs1,hs2⟩:=snoc_good hg hen (by omega) h3
    have hgs:(r.snoc x).Good:=Ros.good_of hs1 hs2
    have hrs:rosE (r.snoc x)=0:=by unfold rosE;rw[if_neg (fun c=>c hs1)];exact hs2
    have hLe:∀y∈r.ents++[x],y.ear.tones.length≤1000000∧y.ear.rds.length≤1000000:=fun y hy=>by
     rcases List.mem_append.1 hy with hy | hy
     ·exact hf.ear y hy
     ·simp at hy;subst hy;exact⟨hx1,hx2⟩
    have hLn:(r.ents++[x]).length=r.ents.length+1:=by simp
    have hfs:(r.snoc x).Fit:=⟨hf.sets,by show(r.ents++[x]).length≤1000000;omega,hLe⟩
    have hsp:=rfew_spec hgs hrs
    have hfw:=rfewest_p (S:=S) (r.snoc x) hgs hfs
    have hsn:(r.snoc x).av= .agg [.int .i64 r.hands,.int .i64 r.skill,.int .i64 r.mn,.int .i64 r.mx,.list .no 2 (r.sets.map Sg.av),.list .no 6 ((r.ents++[x]).map Tn.av)]:=rfl
    simp only[Ros.av,Tn.av,Tn.cells,List.map_nil] at hc hce⊢
    simp -implicitDefEqProofs (maxSteps:=9^9) (disch:=omega) only[go_sem,simprocAttr]
    refine hc _ _ ?_
    simp -implicitDefEqProofs (maxSteps:=9^9) (disch:=omega) only[go_sem,simprocAttr,h2']
    refine hce _ _ ?_
    simp -implicitDefEqProofs (maxSteps:=9^9) (disch:=omega) only[go_sem,simprocAttr,h2']
    have hLm:r.ents.map Tn.av++[.agg [.int .i64 x.day,.int .i64 x.hand,.int .i64 x.due,.int .i64 x.ear.slack,.list .no 2 (x.ear.tones.map Rng.av),.list .no 6 (x.ear.rds.map Rd.av)]]=(r.ents++[x]).map Tn.av:=by rw[List.map_append];rfl
    rw[hLm]
    clear hLm
    obtain⟨L,hL⟩:∃L,L=r.ents++[x]:=⟨_,rfl⟩
    rw[← hL] at hLe hLn hsn⊢
    refine ARun.ghostK (σ.length+4) 5 6 (by rw[hget_at];rfl) rfl ?_
    simp only[hset_at,List.set_cons_succ,List.set_cons_zero,List.append_assoc,List.cons_append,List.nil_append,List.length_append,List.length_cons,List.length_nil,Nat.zero_add,Nat.reduceAdd]
    refine ARun.countA L.length (fun i τ=>∃j,τ=σ++(.cells [.int .i64 r.hands,.int .i64 r.skill,.int .i64 r.mn,.int .i64 r.mx,.list .no 2 (r.sets.map Sg.av),.list .no 6 (r.ents.map Tn.av)]:: .cells [.int .i64 x.day,.int .i64 x.hand,.int .i64 x.due,.int .i64 x.ear.slack,.list .no 2 (x.ear.tones.map Rng.av),.list .no 6 (x.ear.rds.map Rd.av)]:: .cells [.int .i64 0,.int .i64 0,.int .i64 0,.int .i64 0,.list .full 0 [],.list .full 0 []]:: .tail r.sets.length 2:: .cells [.int .i64 r.hands,.int .i64 r.skill,.int .i64 r.mn,.int .i64 r.mx,.list (.own (σ.length+3)) 2 (r.sets.map Sg.av),.list (.own (σ.length+6)) 6 ((L.take i).map Tn.av)]:: .tail (r.ents.length+1) 6:: .tail i 6::j)) (fun i=>[(10,.int .i64 i)]) (by simp[upd,ins,subF,lookA]) ⟨[],by simp⟩ ?_ ?_
    ·rintro i τ hi ⟨j,rfl⟩ ih
     have hidx:idx (L.map Tn.av) (i:Int)=some (Tn.av L[i]):=idx_nat hi
     have hte:=hLe _ (List.getElem_mem hi)
     have htl:(L.take i).length=i:=by rw[List.length_take];omega
     have hwi:IntKind.i64.wrap ((i:Int)+1)=((i+1:Nat):Int):=by rw[wrap64 (by omega) (by omega)];rfl
     have hiL:((i:Int)<L.length)=True:=eq_true (by omega)
     have hml:(L.map Tn.av).length=L.length:=by simp
     rw[List.take_succ_eq_append_getElem hi,List.map_append] at ih
     generalize L[i]=t at *
     have hav:t.av= .agg [.int .i64 t.day,.int .i64 t.hand,.int .i64 t.due,.int .i64 t.ear.slack,.list .no 2 (t.ear.tones.map Rng.av),.list .no 6 (t.ear.rds.map Rd.av)]:=rfl
     simp only[List.map_cons,List.map_nil] at ih
     rw[hav] at hidx ih
     have hi6:i≤5:=by omega
     clear hc hce hfw hsp hsn hf hg hgs hfs hLe hL hs1 hs2 hrs hwR hwE hen h3 hh hsl hx1 hx2
     refine ev_sound (Tryz.envOK (S:=S) 90 Tryz.ord75 fs422 fs422_ok) (n:=11) (by kernel_rfl) ?_
     simp -implicitDefEqProofs (maxSteps:=9^9) (disch:=omega) only[go_sem,simprocAttr,hidx,htl,hiL,hml]
     change ARun _ _ _ _ _ _
     refine ARun.cellW (σ.length+(j.length+7)) (cs':=[.int .i64 t.day,.int .i64 t.hand,.int .i64 t.due,.int .i64 t.ear.slack,.list .no 2 (t.ear.tones.map Rng.av),.list .no 6 (t.ear.rds.map Rd.av)]) (by rw[hget_at];simp;rfl) ?hw ?_
     case hw=>exact⟨Weak.refl _,Weak.refl _,Weak.refl _,Weak.refl _,Weak.no,Weak.no,trivial⟩
     rw[hset_at]
     simp only[List.set_cons_succ,List.set_append_right,Nat.le_refl,Nat.sub_self,List.set_cons_zero]
     refine ev_sound (Tryz.envOK (S:=S) 90 Tryz.ord75 fs422 fs422_ok) (n:=1000) (by kernel_rfl) ?_
     simp -implicitDefEqProofs (maxSteps:=9^9) (disch:=omega) only[go_sem,simprocAttr,hidx,htl,hwi]
     exact(ih _ ⟨j++[.cells [.int .i64 t.day,.int .i64 t.hand,.int .i64 t.due,.int .i64 t.ear.slack,.list .no 2 (t.ear.tones.map Rng.av),.list .no 6 (t.ear.rds.map Rd.av)],.tail t.ear.tones.length 2,.tail t.ear.rds.length 6],rfl⟩).castS rfl (by simp[upd,ins,subF,lookA])
    ·rintro τ ⟨j,rfl⟩
     rw[List.take_length]
     have hiL:((L.length:Int)<L.length)=False:=eq_false (by omega)
     have hml:(L.map Tn.av).length=L.length:=by simp
     refine ev_sound (Tryz.envOK (S:=S) 90 Tryz.ord75 fs422 fs422_ok) (n:=1000) (by kernel_rfl) ?_
     simp -implicitDefEqProofs (maxSteps:=9^9) (disch:=omega) only[go_sem,simprocAttr,hiL,hml]
     refine ACalls.weaken (l':=[(r.snoc x).av]) ⟨⟨rfl,rfl,rfl,rfl,⟨rfl,.inl rfl,.inl rfl⟩,⟨by rw[hL];rfl,.inl rfl,.inl rfl⟩,trivial⟩,trivial⟩ (hfw _ _ ?_)
     rcases hsp with⟨hk,g1,g2,_⟩ | ⟨hk,g1,_,_⟩
     ·have hne:(rfew (r.snoc x)).1≠[]:=by rw[g1];exact g2
      have hz:(((rfew (r.snoc x)).1.length:Int)=0)=False:=eq_false (by have:=List.length_pos_iff.2 hne;omega)
      have hml2:((rfew (r.snoc x)).1.map ints1).length=(rfew (r.snoc x)).1.length:=by simp
      rw[hk] at hwE
      rw[hwR,hwE,if_pos rfl]
      simp only[htss]
      simp -implicitDefEqProofs (maxSteps:=9^9) (disch:=omega) only[go_sem,simprocAttr,hz,hml2]
      exact⟨rfl,rfl,rfl,rfl,rfl,by rw[hL];rfl⟩
     ·rw[hk] at hwE
      rw[hwR,hwE,if_neg (by decide),g1]
      simp only[htss,List.map_nil]
      simp -implicitDefEqProofs (maxSteps:=9^9) (disch:=omega) only[go_sem,simprocAttr]
   ·rw[if_pos h3] at hwE
    rw[hwR,hwE,if_neg h3]
    have h3':((chkE x r.hands).2=0)=False:=eq_false h3
    simp only[Ros.av,Tn.av,Tn.cells,List.map_nil] at hc hce⊢
    simp -implicitDefEqProofs (maxSteps:=9^9) (disch:=omega) only[go_sem,simprocAttr]
    refine hc _ _ ?_
    simp -implicitDefEqProofs (maxSteps:=9^9) (disch:=omega) only[go_sem,simprocAttr,h2']
    refine hce _ _ ?_
    simp -implicitDefEqProofs (maxSteps:=9^9) (disch:=omega) only[go_sem,simprocAttr,h2',h3']
 ·rw[if_pos h1] at hwE
  rw[hwR,hwE,if_neg h1]
  have h1':(rosE r=0)=False:=eq_false h1
  simp only[Ros.av,Tn.av,Tn.cells,List.map_nil] at hc⊢
  simp -implicitDefEqProofs (maxSteps:=9^9) (disch:=omega) only[go_sem,simprocAttr]
  refine hc _ _ ?_
  simp -implicitDefEqProofs (maxSteps:=9^9) (disch:=omega) only[go_sem,simprocAttr,h1']
/-! The reference's Next. -/
def nxI(F:List (List Int))(i:Nat):Int×Int:=if i=0 then(-1,0) else leastOf (worstH F) (handsL i)
theorem nxI_succ{F:List (List Int)}{i:Nat}:nxI F (i+1)=if i=0 then(0,worstH F 0) else leastF (worstH F) (nxI F i) (i:Int):=by
 unfold nxI
 rw[if_neg (by omega)]
 by_cases h:i=0
 ·subst h;rw[if_pos rfl];rfl
 ·rw[if_neg h,if_neg h]
  obtain⟨l,hl,_⟩:=handsL_cons (n:=i) (by omega)
  rw[handsL_succ,hl]
  unfold leastOf
  simp only[List.cons_append,List.drop_succ_cons,List.drop_zero,List.headD_cons,List.foldl_append,List.foldl_cons,List.foldl_nil]
theorem nxI_nn{F:List (List Int)}:∀{i:Nat},0<i→0≤(nxI F i).1
 | 0,h=>by omega
 | i+1,_=>by
  rw[nxI_succ]
  by_cases h:i=0
  ·rw[if_pos h];simp
  ·rw[if_neg h]
   have:=nxI_nn (F:=F) (i:=i) (by omega)
   unfold leastF
   split
   ·simp
   ·exact this
theorem rNext_p(r:Ros)(hf:r.Fit):PureV S 74 [r.av] (.tup [.int .i64 (nextL r).1,.int .i64 (nextL r).2,.int .i64 (knownE r [])]):=by
 have hkn:=rknown_p (S:=S) r hf
 rw[rkn1] at hkn
 generalize (rkn r).2=B at *
 refine PvE (Tryz.envOK (S:=S) 48 (fun _=>([],[])) fs422 fs422_ok) (.tup (by simp only[List.mem_cons,List.not_mem_nil,or_false,forall_eq_or_imp,forall_eq];exact⟨.int,.int,.int⟩)) Tryz.kp74 Tryz.func74 rfl ?_
 intro σ
 obtain⟨hF6,hF4⟩:=fewL_few r
 by_cases hE:knownE r []=0
 ·have hg:=known_good hE
  have hh:=hg.hands
  have hH:(r.hands.toNat:Int)=r.hands:=by omega
  have hnx:nextL r=nxI (fewL r) r.hands.toNat:=by
   unfold nextL nxI
   rw[if_pos hE,if_neg (by omega)]
  rw[hnx]
  rw[hE] at hkn⊢
  generalize fewL r=F at hF6 hF4 hkn⊢
  have hml:(F.map ints1).length=F.length:=by simp
  have hFe:∀x∈F,x.length≤1000000:=fun x hx=>by have:=hF4 x hx;omega
  simp only[Ros.av,htss] at hkn⊢
  simp -implicitDefEqProofs (maxSteps:=9^9) (disch:=omega) only[go_sem,simprocAttr]
  refine hkn _ _ ?_
  simp -implicitDefEqProofs (maxSteps:=9^9) (disch:=omega) only[go_sem,simprocAttr]
  refine ARun.forS (Tryz.envOK (S:=S) 48 (fun _=>([],[])) fs422 fs422_ok) r.hands.toNat (fun _=>True) (fun i=>[(8,.int .i64 (nxI F i).1),(9,.int .i64 (nxI F i).2),(10,.int .i64 i)]) (fun _ _=>σ++[.cells [.int .i64 r.hands,.int .i64 r.skill,.int .i64 r.mn,.int .i64 r.mx,.list .no 2 (r.sets.map Sg.av),.list .no 6 (r.ents.map Tn.av)]]) [] (by kernel_rfl) (by simp) (by simp[upd,ins,subF,lookA,nxI]) trivial ?_ ?_
  ·intro i j hi _ ih
   have hwi:IntKind.i64.wrap ((i:Int)+1)=((i+1:Nat):Int):=by rw[wrap64 (by omega) (by omega)];rfl
   have hlt:((i:Int)<r.hands)=True:=eq_true (by omega)
   have hc:=rcount_p (S:=S) F i (by omega) hFe
   have hcl:cntL F i≤F.length:=List.length_filter_le _ _
   have hwo:worstH F i=if(cntL F i:Int)<(F.length:Int)-cntL F i then(F.length:Int)-cntL F i else cntL F i:=rfl
   have hww:IntKind.i64.wrap ((F.length:Int)-cntL F i)=(F.length:Int)-cntL F i:=wrap64 (by omega) (by omega)
   rw[nxI_succ] at ih
   by_cases h0:i=0
   ·subst h0
    rw[if_pos rfl] at ih
    simp only[htss] at hc
    have e:nxI F 0=(-1,0):=rfl
    rw[e]
    simp only at ih
    rw[show worstH F 0=worstH F ((0:Nat):Int) from rfl,hwo] at ih
    clear hwo
    generalize cntL F ((0:Nat):Int)=c at *
    simp -implicitDefEqProofs (maxSteps:=9^9) (disch:=omega) only[go_sem,simprocAttr,hlt]
    refine hc _ _ ?_
    simp -implicitDefEqProofs (maxSteps:=9^9) (disch:=omega) only[go_sem,simprocAttr,hml,hww,hwi]
    exact(ih trivial []).castS rfl (by simp[upd,ins,subF,lookA])
   ·rw[if_neg h0] at ih
    have hnn:=nxI_nn (F:=F) (i:=i) (by omega)
    have hn0:((nxI F i).1<0)=False:=eq_false (by omega)
    have hlf:leastF (worstH F) (nxI F i) (i:Int)=if worstH F i<(nxI F i).2 then((i:Int),worstH F i) else nxI F i:=rfl
    rw[hlf,hwo] at ih
    clear hlf hwo hnn
    generalize nxI F i=N at *
    simp only[htss] at hc
    generalize cntL F (i:Int)=c at *
    by_cases c2:(if(c:Int)<(F.length:Int)-c then(F.length:Int)-c else c)<N.2
    ·rw[if_pos c2] at ih
     have c2':=eq_true c2
     simp -implicitDefEqProofs (maxSteps:=9^9) (disch:=omega) only[go_sem,simprocAttr,hlt]
     refine hc _ _ ?_
     simp -implicitDefEqProofs (maxSteps:=9^9) (disch:=omega) only[go_sem,simprocAttr,hml,hww,hn0,c2',hwi]
     exact(ih trivial []).castS rfl (by simp[upd,ins,subF,lookA])
    ·rw[if_neg c2] at ih
     have c2':=eq_false c2
     simp -implicitDefEqProofs (maxSteps:=9^9) (disch:=omega) only[go_sem,simprocAttr,hlt]
     refine hc _ _ ?_
     simp -implicitDefEqProofs (maxSteps:=9^9) (disch:=omega) only[go_sem,simprocAttr,hml,hww,hn0,c2',hwi]
     exact(ih trivial []).castS rfl (by simp[upd,ins,subF,lookA])
  ·intro j _
   have hlt:(((r.hands.toNat:Nat):Int)<r.hands)=False:=eq_false (by omega)
   simp -implicitDefEqProofs (maxSteps:=9^9) (disch:=omega) only[go_sem,simprocAttr,hlt]
 ·have hE':(knownE r []=0)=False:=eq_false hE
  rw[show nextL r=(0,0) from if_neg hE]
  simp only[Ros.av,htss] at hkn⊢
  simp -implicitDefEqProofs (maxSteps:=9^9) (disch:=omega) only[go_sem,simprocAttr]
  refine hkn _ _ ?_
  simp -implicitDefEqProofs (maxSteps:=9^9) (disch:=omega) only[go_sem,simprocAttr,hE']
end Go.Proofs
namespace Go.Proofs
open Go Go.Mu Go.Ins
theorem _root_.Go.Mu.ACalls.of_evN{E:Env}(n:Nat)(hE:EnvOK E){f:FuncId}{fn:Func}{c:Code}{args:List AV}{σ:List AObj}{Q:AV→List AObj→Prop}(kp:Nat→Bool)(hf:E.P.funcs[f]? = some fn)(hb:fn.body=some c)(hN:fn.ntmps=E.N)(hA:args.length≤E.N)
  (hC:Callable E.P f) (hO:todoOK E [.code c]=true)
  (h:ev E none n [.code c] ⟨kp,[],number 0 args⟩ σ (retPost E fn.results.toList Q)):ACalls E.S f args σ Q:=by
 refine ACalls.of_run hE kp hf hb hN hA hC ((ev_sound hE hO h).mono fun j fr σ' ⟨h1,h2⟩=>⟨h1,?_⟩)
 cases hr:resAs E fr σ' fn.results.toList with
 | none=>rw[hr] at h2;exact h2.elim
 | some vs=>rw[hr] at h2;exact⟨vs,rfl,h2⟩
theorem rosters_c(r:Ros)(x:Tn)(l:List Int)(hl:l.length≤4294967296)(σ:List AObj)(Q:AV→List AObj→Prop)(h:∀made rates by_ j,TrueR 3 4 3 made rates by_→Q (.list .no 6 ([r,made,made.snoc x].map Ros.av)) (σ++j)) :
  ACalls SBes 29 [r.av,x.av,.list .no 1 (l.map (.int .i64))] σ Q:=by
 refine ACalls.wkW ?_
 refine ACalls.of_evN 8 (E:=Tryz.E (S:=SBes) 28 (fun _=>([],[])) fs0) (Tryz.envOK (S:=SBes) 28 (fun _=>([],[])) fs0 fs0_ok) Tryz.kp29 Tryz.func29 rfl (by kernel_rfl) (by simp[Tryz.E]) (Callable.of Tryz.func29 (by kernel_rfl) (by kernel_rfl)) (by kernel_rfl) ?_
 obtain⟨hands,skill,mn,mx,sets,ents⟩:=r
 obtain⟨day,hand,due,ear⟩:=x
 obtain⟨sl,ts,rs⟩:=ear
 simp only[Ros.av,Tn.av,Tn.cells]
 simp -implicitDefEqProofs (maxSteps:=9^9) (disch:=omega) only[go_sem,simprocAttr]
 refine newPot_c l .no hl _ _ fun s1 j1=>?_
 simp -implicitDefEqProofs (maxSteps:=9^9) (disch:=omega) only[go_sem,simprocAttr]
 refine rosterOf_c (σ.length+2) 3 4 3 (by omega) (by omega) (by omega) _ ⟨s1,by rw[hget_at];rfl⟩ _ fun s2 made rates by_ j2 hT=>?_
 have hfit:=hT.fit (by omega)
 have hs2:=hT.sl
 have hel:=hT.el
 replace h:=fun j=>h made rates by_ j hT
 clear hT
 unfold pw
 rw[hset_at]
 simp only[List.set_cons_succ,List.set_cons_zero,List.append_assoc,List.cons_append]
 simp only[Ros.av,truAV,ints1]
 simp -implicitDefEqProofs (maxSteps:=9^9) (disch:=omega) only[go_sem,simprocAttr]
 obtain⟨σ2,hσ2⟩:∃σ2,σ2=σ++(AObj.cells [.int .i64 hands,.int .i64 skill,.int .i64 mn,.int .i64 mx,.list .no 2 (sets.map Sg.av),.list .no 6 (ents.map Tn.av)]::AObj.cells [.int .i64 day,.int .i64 hand,.int .i64 due,.int .i64 sl,.list .no 2 (ts.map Rng.av),.list .no 6 (rs.map Rd.av)]::AObj.cells [.int .u64 s2]::(j1++(j2++[AObj.cells [.int .i64 made.hands,.int .i64 made.skill,.int .i64 made.mn,.int .i64 made.mx,.list .no 2 (made.sets.map Sg.av),.list .no 6 (made.ents.map Tn.av)],AObj.cells [.list .no 1 (rates.map (.int .i64)),.list .no 1 (by_.map (.int .i64))]]))):=⟨_,rfl⟩
 obtain⟨J,hJ⟩:∃J,σ2=σ++J:=⟨_,hσ2⟩
 obtain⟨q7,hq7⟩:∃q7,q7=σ.length+(j1.length+j2.length+1+1+1):=⟨_,rfl⟩
 have hb0:∀k,hget (σ2++k) σ.length=some (AObj.cells [.int .i64 hands,.int .i64 skill,.int .i64 mn,.int .i64 mx,.list .no 2 (sets.map Sg.av),.list .no 6 (ents.map Tn.av)]):=fun k=>by rw[hσ2,List.append_assoc,hget_at0];rfl
 have hb1:∀k,hget (σ2++k) (σ.length+1)=some (AObj.cells [.int .i64 day,.int .i64 hand,.int .i64 due,.int .i64 sl,.list .no 2 (ts.map Rng.av),.list .no 6 (rs.map Rd.av)]):=fun k=>by rw[hσ2,List.append_assoc,hget_at];rfl
 have hb7:∀k,hget (σ2++k) q7=some (AObj.cells [.int .i64 made.hands,.int .i64 made.skill,.int .i64 made.mn,.int .i64 made.mx,.list .no 2 (made.sets.map Sg.av),.list .no 6 (made.ents.map Tn.av)]):=fun k=>by
  rw[hσ2,hq7,List.append_assoc,hget_at]
  simp only[List.cons_append,List.append_assoc,List.getElem?_cons_succ]
  rw[List.getElem?_append_right (by omega),Nat.add_sub_cancel_left,List.getElem?_append_right (Nat.le_refl _),Nat.sub_self]
  rfl
 rw[← hσ2,← hq7]
 clear hσ2 hq7
 refine copyRoster_c made (by omega) (by omega) hfit.ear _ _ fun a1 a2 a3 j3=>?_
 simp only[Ros.avv]
 simp -implicitDefEqProofs (maxSteps:=9^9) (disch:=omega) only[go_sem,simprocAttr,hb0,hb1,hb7]
 have hsetl:∀(j:List AObj) (c c':AObj),(j++[c]).set j.length c'=j++[c']:=fun j c c'=>by simp[List.set_append]
 change ARun _ _ _ _ _ _
 refine ARun.freezeK (σ2.length+(j3.length+1+1+1+1)) 5 (r:=σ2.length+3) (n:=made.ents.length+1) (sz:=6) (xs:=made.ents.map Tn.av++[.agg [.int .i64 day,.int .i64 hand,.int .i64 due,.int .i64 sl,.list .no 2 (ts.map Rng.av),.list .no 6 (rs.map Rd.av)]]) (by rw[hget_at];simp;rfl) rfl (by rw[hget_at];rfl) (by simp) ?_
 rw[hset_at,hset_at]
 simp only[List.set_cons_succ,List.set_cons_zero,hsetl]
 refine ev_sound (Tryz.envOK (S:=SBes) 28 (fun _=>([],[])) fs0 fs0_ok) (n:=1000) (by kernel_rfl) ?_
 simp -implicitDefEqProofs (maxSteps:=9^9) (disch:=omega) only[go_sem,simprocAttr,hb0,hb1,hb7]
 refine⟨_,wk_weak (w:= .list .no 6 ([⟨hands,skill,mn,mx,sets,ents⟩,made,made.snoc ⟨day,hand,due,⟨sl,ts,rs⟩⟩].map Ros.av)) ⟨by simp[Ros.av,Ros.snoc,Tn.av,Tn.cells],.inl rfl,.inl rfl⟩,?_⟩
 rw[hJ,List.append_assoc]
 exact h _
theorem hcopyRos_p(r:Ros)(hs:r.sets.length≤1000)(hn:r.ents.length≤1000)(he:∀x∈r.ents,x.ear.tones.length≤1000000∧x.ear.rds.length≤1000000):PureV SBes 30 [r.av] r.av:=by
 intro σ Q hq
 have hQ:Q r.av σ:=hq
 refine ACalls.clean ?_
 refine ACalls.frozeG ?_
 refine copyRoster_c r hs hn he σ _ fun a b c j=>?_
 refine⟨_,5,σ.length+3,6,r.ents.map Tn.av,rfl,?_,by rw[hget_at];rfl,?_⟩
 ·simp
 ·rw[hset_at]
  exact⟨r.av,_,rfl,Weak.refl _,r.plain _,hQ⟩
structure Ros.Few(r:Ros):Prop where
 sets:r.sets.length≤20
 ents:r.ents.length≤20
 ear:∀x∈r.ents,x.ear.tones.length≤20∧x.ear.rds.length≤20
theorem Ros.Few.fit{r:Ros}(h:r.Few):r.Fit:=⟨by have:=h.sets;omega,by have:=h.ents;omega,fun x hx=>by have:=h.ear x hx;omega⟩
theorem loudB_few{e:Ear}(h:loudB e=false):e.tones.length≤20∧e.rds.length≤20:=by
 unfold loudB at h
 simp at h
 omega
theorem crowdB_few{r:Ros}(h:crowdB r=false):r.Few:=by
 unfold crowdB at h
 simp only[Bool.or_eq_false_iff,decide_eq_false_iff_not] at h
 obtain⟨h1,h2,h3⟩:=h
 refine⟨by omega,by omega,fun x hx=>loudB_few ?_⟩
 rw[List.take_of_length_le (by omega)] at h1
 have:=List.any_eq_false.1 h1 x hx
 simpa using this
theorem TrueR.few{H E w:Int}{r:Ros}{rates by_:List Int}(h:TrueR H E w r rates by_)(hE:E≤5):r.Few:=by
 have h1:=h.sl
 have h2:=h.el
 refine⟨by omega,by omega,fun x hx=>?_⟩
 obtain⟨b,hb⟩:=h.by_at hx
 obtain⟨t,lo,hi,rds,_,_,g3,g4⟩:=hb.ear
 rw[g4]
 rcases g3 with rfl | rfl<;> simp
theorem Ros.Few.snoc{r:Ros}{x:Tn}(h:r.Few)(he:r.ents.length≤19)(hx:x.ear.tones.length≤20∧x.ear.rds.length≤20):(r.snoc x).Few:=by
 refine⟨h.sets,by show(r.ents++[x]).length≤20;simp;omega,fun y hy=>?_⟩
 rcases List.mem_append.1 (show y∈r.ents++[x] from hy) with hy | hy
 ·exact h.ear y hy
 ·simp at hy;subst hy;exact hx
theorem hwithG_p(r:Ros)(hf:r.Fit)(x:Tn)(hx1:x.ear.tones.length≤1000000)(hx2:x.ear.rds.length≤1000000):PureV SBes 62 [r.av,x.av] (.tup [(withRos r x).av,.int .i64 (withE r x)]):=by
 have hc:=hCheck_p r hf
 have hwE:withE r x=if rosE r≠0 then rosE r else if 5≤r.ents.length then 6 else if(chkE x r.hands).2≠0 then(chkE x r.hands).2 else knownE (r.snoc x) []:=rfl
 have hwR:withRos r x=if withE r x=0 then r.snoc x else⟨0,0,0,0,[],[]⟩:=rfl
 by_cases h1:rosE r=0
 ·rw[if_neg (fun c=>c h1)] at hwE
  obtain⟨hg,hhd,hen⟩:=ros_good h1
  have hh:=hg.hands
  have hel:=hg.entl
  by_cases h2:5≤r.ents.length
  ·rw[if_pos h2] at hwE
   rw[hwR,hwE,if_neg (by decide)]
   rw[h1] at hc
   have h2':((r.ents.length:Int)=5)=True:=eq_true (by omega)
   have hml:(r.ents.map Tn.av).length=r.ents.length:=by simp
   refine PvE (Tryz.envOK (S:=SBes) 89 Tryz.ord62 fs0 fs0_ok) (ros_plain2 _ _) Tryz.kp62 Tryz.func62 rfl ?_
   intro σ
   simp only[Ros.av,Tn.av,Tn.cells,List.map_nil] at hc⊢
   simp -implicitDefEqProofs (maxSteps:=9^9) (disch:=omega) only[go_sem,simprocAttr]
   refine hc _ _ ?_
   simp -implicitDefEqProofs (maxSteps:=9^9) (disch:=omega) only[go_sem,simprocAttr,hml,h2']
  ·rw[if_neg h2] at hwE
   by_cases h3:(chkE x r.hands).2=0
   ·rw[if_neg (fun c=>c h3)] at hwE
    intro σ Q hq
    refine ACalls.clean ?_
    refine with_c r x hf hhd hen (by omega) h3 hx1 hx2 (fun hE j=>?_) (fun hO j=>?_)
    ·rw[hwR,hwE,if_neg hE] at hq
     exact⟨_,j,rfl,wk_weak (by simp[wk,wkL,wk1,wk0,ros0,Ros.av]),(ros_plain2 _ _) _,hq⟩
    ·rw[hwR,hwE,if_pos hO,hO] at hq
     exact⟨_,j,rfl,Weak.refl _,(ros_plain2 _ _) _,hq⟩
   ·rw[if_pos h3] at hwE
    rw[hwR,hwE,if_neg h3]
    rw[h1] at hc
    have hce:=hchk_p x r.hands (by omega) hx1 hx2
    have h3':((chkE x r.hands).2=0)=False:=eq_false h3
    have hl5:(((r.ents.map Tn.av).length:Int)=5)=False:=by simp;omega
    refine PvE (Tryz.envOK (S:=SBes) 89 Tryz.ord62 fs0 fs0_ok) (ros_plain2 _ _) Tryz.kp62 Tryz.func62 rfl ?_
    intro σ
    simp only[Ros.av,Tn.av,Tn.cells,List.map_nil,ints1] at hc hce⊢
    simp -implicitDefEqProofs (maxSteps:=9^9) (disch:=omega) only[go_sem,simprocAttr]
    refine hc _ _ ?_
    simp -implicitDefEqProofs (maxSteps:=9^9) (disch:=omega) only[go_sem,simprocAttr,hl5]
    refine hce _ _ ?_
    simp -implicitDefEqProofs (maxSteps:=9^9) (disch:=omega) only[go_sem,simprocAttr,h3']
 ·rw[if_pos h1] at hwE
  rw[hwR,hwE,if_neg h1]
  have h1':(rosE r=0)=False:=eq_false h1
  refine PvE (Tryz.envOK (S:=SBes) 89 Tryz.ord62 fs0 fs0_ok) (ros_plain2 _ _) Tryz.kp62 Tryz.func62 rfl ?_
  intro σ
  simp only[Ros.av,Tn.av,Tn.cells,List.map_nil] at hc⊢
  simp -implicitDefEqProofs (maxSteps:=9^9) (disch:=omega) only[go_sem,simprocAttr]
  refine hc _ _ ?_
  simp -implicitDefEqProofs (maxSteps:=9^9) (disch:=omega) only[go_sem,simprocAttr,h1']
theorem withRos_fit{r:Ros}{x:Tn}(hf:r.Few)(hx:x.ear.tones.length≤20∧x.ear.rds.length≤20):(withRos r x).Fit:=by
 unfold withRos
 split
 ·have h1:=hf.sets
  have h2:=hf.ents
  refine⟨by show r.sets.length≤1000000;omega,by show(r.ents++[x]).length≤1000000;simp;omega,fun y hy=>?_⟩
  rcases List.mem_append.1 (show y∈r.ents++[x] from hy) with hy | hy
  ·have:=hf.ear y hy;omega
  ·simp at hy;subst hy;omega
 ·exact⟨by simp,by simp,fun y hy=>absurd hy (by simp)⟩
theorem handNext_law(r:Ros)(x:Tn)(l:List Int)(hl:l.length≤4294967296)(h1:r.sets.length≤4294967296)(h2:r.ents.length≤4294967296)(h3:∀y∈r.ents,y.ear.tones.length≤4294967296∧y.ear.rds.length≤4294967296)(h4:x.ear.tones.length≤4294967296∧x.ear.rds.length≤4294967296)(σ:List AObj) :
  ACalls SBes 16 [r.av,x.av,.list .no 1 (l.map (.int .i64))] σ fun v _=>v= .bool true:=by
 refine AcE (Tryz.envOK (S:=SBes) 107 Tryz.ord16 fs408 fs408_ok) Tryz.kp16 Tryz.func16 rfl ?_
 have hcr:=crowd11_p (S:=SBes) r h1 h2 h3
 have hld:=loud11_p (S:=SBes) x.ear h4.1 h4.2
 have hrs:=fun σ Q h=>rosters_c r x l hl σ Q h
 have hfc:=@crowdB_few r
 have hfl:=@loudB_few x.ear
 generalize hC:crowdB r=C at *
 generalize loudB x.ear=Lo at *
 obtain⟨rav,hrav⟩:∃v,v=r.av:=⟨_,rfl⟩
 simp only[Ros.av,Tn.av,Tn.cells,Ear.av] at hcr hld hrs⊢
 cases C
 ·simp -implicitDefEqProofs (maxSteps:=9^9) (disch:=omega) only[go_sem,simprocAttr]
  refine hcr _ _ ?_
  cases Lo
  ·simp -implicitDefEqProofs (maxSteps:=9^9) (disch:=omega) only[go_sem,simprocAttr]
   refine hld _ _ ?_
   simp -implicitDefEqProofs (maxSteps:=9^9) (disch:=omega) only[go_sem,simprocAttr]
   refine hrs _ _ fun made rates by_ j hT=>?_
   have hF1:=hfc rfl
   have hF2:=hT.few (by omega)
   have hel:=hT.el
   have hxl:=hfl rfl
   have hF3:=hF2.snoc (x:=x) (by omega) (hfl rfl)
   obtain⟨RS,hRS⟩:∃RS,RS=[r,made,made.snoc x]:=⟨_,rfl⟩
   have hlen:RS.length=3:=by rw[hRS];rfl
   have hfew:∀y∈RS,y.Few:=fun y hy=>by rw[hRS] at hy;simp at hy;rcases hy with rfl | rfl | rfl<;> assumption
   rw[← hRS]
   clear hRS hF1 hF2 hF3 hT hcr hld hrs hfc hfl hel hC
   obtain⟨σ1,hσ1⟩:∃σ1,σ1=σ++(AObj.cells [.int .i64 r.hands,.int .i64 r.skill,.int .i64 r.mn,.int .i64 r.mx,.list .no 2 (r.sets.map Sg.av),.list .no 6 (r.ents.map Tn.av)]::AObj.cells [.int .i64 x.day,.int .i64 x.hand,.int .i64 x.due,.int .i64 x.ear.slack,.list .no 2 (x.ear.tones.map Rng.av),.list .no 6 (x.ear.rds.map Rd.av)]::j):=⟨_,rfl⟩
   simp only[List.append_assoc,List.cons_append,List.nil_append]
   have hx5:∀j,hget (σ1++j) (σ.length+1)=some (AObj.cells [.int .i64 x.day,.int .i64 x.hand,.int .i64 x.due,.int .i64 x.ear.slack,.list .no 2 (x.ear.tones.map Rng.av),.list .no 6 (x.ear.rds.map Rd.av)]):=fun j=>by rw[hσ1,List.append_assoc,hget_at];rfl
   rw[← hσ1]
   clear hσ1
   simp -implicitDefEqProofs (maxSteps:=9^9) (disch:=omega) only[go_sem,simprocAttr,hlen]
   refine ARun.forS (Tryz.envOK (S:=SBes) 107 Tryz.ord16 fs408 fs408_ok) 3 (fun _=>True) (fun i=>[(8,.int .i64 i)]) (fun _ j=>σ1++j) [] (by kernel_rfl) (by simp) (by simp[upd,ins,subF,lookA]) trivial ?_ ?_
   ·intro i j hi _ ih
    have hidx:idx (RS.map Ros.av) (i:Int)=some (Ros.av (RS[i]'(by omega))):=idx_nat (by omega)
    have hfy:=hfew _ (List.getElem_mem (l:=RS) (n:=i) (by omega))
    have hwi:IntKind.i64.wrap ((i:Int)+1)=((i+1:Nat):Int):=by rw[wrap64 (by omega) (by omega)];rfl
    have hi3:((i:Int)<3)=True:=eq_true (by omega)
    generalize RS[i]'(by omega)=y at *
    have hfit:=hfy.fit
    have hs1:=hfy.sets
    have hs2:=hfy.ents
    have hcp:=hcopyRos_p y (by omega) (by omega) hfit.ear
    have h1:=handNext_p y hfit
    have h2:=rNext_p (S:=SBes) y hfit
    have h3:=hwithG_p y hfit x (by omega) (by omega)
    have h4:=rWith_p (S:=SBes) y hfit x (by omega) (by omega)
    have hwf:=withRos_fit hfy hxl
    have hs0:=sameRos_p (S:=SBes) (withRos y x) hwf.sets hwf.ents hwf.ear
    have hss:=sameRos_p (S:=SBes) y hfit.sets hfit.ents hfit.ear
    clear hwf
    generalize (nextL y).1=n1 at *
    generalize (nextL y).2=n2 at *
    generalize knownE y []=n3 at *
    generalize withRos y x=z at *
    generalize withE y x=n4 at *
    have hav:y.av= .agg [.int .i64 y.hands,.int .i64 y.skill,.int .i64 y.mn,.int .i64 y.mx,.list .no 2 (y.sets.map Sg.av),.list .no 6 (y.ents.map Tn.av)]:=rfl
    have hzv:z.av= .agg [.int .i64 z.hands,.int .i64 z.skill,.int .i64 z.mn,.int .i64 z.mx,.list .no 2 (z.sets.map Sg.av),.list .no 6 (z.ents.map Tn.av)]:=rfl
    have hxv:x.av= .agg [.int .i64 x.day,.int .i64 x.hand,.int .i64 x.due,.int .i64 x.ear.slack,.list .no 2 (x.ear.tones.map Rng.av),.list .no 6 (x.ear.rds.map Rd.av)]:=rfl
    rw[hav] at hidx hcp h1 h2 h3 h4 hss
    rw[hzv] at h3 h4 hs0
    rw[hxv] at h3 h4
    simp -implicitDefEqProofs (maxSteps:=9^9) (disch:=omega) only[go_sem,simprocAttr,hidx,hi3,hx5]
    refine hcp _ _ ?_
    simp -implicitDefEqProofs (maxSteps:=9^9) (disch:=omega) only[go_sem,simprocAttr,hidx,hx5]
    refine h1 _ _ ?_
    simp -implicitDefEqProofs (maxSteps:=9^9) (disch:=omega) only[go_sem,simprocAttr,hidx,hx5]
    refine h2 _ _ ?_
    simp -implicitDefEqProofs (maxSteps:=9^9) (disch:=omega) only[go_sem,simprocAttr,hidx,hx5]
    refine h3 _ _ ?_
    simp -implicitDefEqProofs (maxSteps:=9^9) (disch:=omega) only[go_sem,simprocAttr,hidx,hx5]
    refine h4 _ _ ?_
    simp -implicitDefEqProofs (maxSteps:=9^9) (disch:=omega) only[go_sem,simprocAttr,hidx,hx5]
    refine hs0 _ _ ?_
    simp -implicitDefEqProofs (maxSteps:=9^9) (disch:=omega) only[go_sem,simprocAttr,hidx,hx5]
    refine hss _ _ ?_
    simp -implicitDefEqProofs (maxSteps:=9^9) (disch:=omega) only[go_sem,simprocAttr,hidx,hwi]
    exact(ih trivial (j++[AObj.cells [.int .i64 y.hands,.int .i64 y.skill,.int .i64 y.mn,.int .i64 y.mx,.list .no 2 (y.sets.map Sg.av),.list .no 6 (y.ents.map Tn.av)],.cells [.int .i64 z.hands,.int .i64 z.skill,.int .i64 z.mn,.int .i64 z.mx,.list .no 2 (z.sets.map Sg.av),.list .no 6 (z.ents.map Tn.av)],.cells [.int .i64 z.hands,.int .i64 z.skill,.int .i64 z.mn,.int .i64 z.mx,.list .no 2 (z.sets.map Sg.av),.list .no 6 (z.ents.map Tn.av)]])).castS rfl (by simp[upd,ins,subF,lookA])
   ·intro j _
    simp -implicitDefEqProofs (maxSteps:=9^9) (disch:=omega) only[go_sem,simprocAttr,hlen]
    refine steady_p _ _ ?_
    simp -implicitDefEqProofs (maxSteps:=9^9) (disch:=omega) only[go_sem,simprocAttr]
  ·simp -implicitDefEqProofs (maxSteps:=9^9) (disch:=omega) only[go_sem,simprocAttr]
   refine hld _ _ ?_
   simp -implicitDefEqProofs (maxSteps:=9^9) (disch:=omega) only[go_sem,simprocAttr]
   refine steady_p _ _ ?_
   simp -implicitDefEqProofs (maxSteps:=9^9) (disch:=omega) only[go_sem,simprocAttr]
 ·simp -implicitDefEqProofs (maxSteps:=9^9) (disch:=omega) only[go_sem,simprocAttr]
  refine hcr _ _ ?_
  simp -implicitDefEqProofs (maxSteps:=9^9) (disch:=omega) only[go_sem,simprocAttr]
  refine steady_p _ _ ?_
  simp -implicitDefEqProofs (maxSteps:=9^9) (disch:=omega) only[go_sem,simprocAttr]
end Go.Proofs
