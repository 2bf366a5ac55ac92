/- Texts of a proof: lemmas. -/
import Derived.Test.YtgbdndlmdklefaaGreatGK11
import Derived.Test.YtgbdndlmdklefaaGreatGK13
set_option linter.unusedSimpArgs false
set_option linter.unusedVariables false
set_option maxRecDepth 100000
set_option maxHeartbeats 40000000
namespace Go.Proofs
open Go Go.Mu
variable {S:MC Tryz.prog}
def rin_s:=spec3 tI tI tI fun n lo hi=>some (.bool (decide (lo≤n∧n≤hi)))
theorem rin_ok:∀xs v,rin_s xs=some v→PureV S 174 xs v:=by
 refine spec3_ok fun n lo hi v h=>?_
 simp only[Option.some.injEq] at h;subst h
 refine PvE (Tryz.envOK (S:=S) 15 (fun _=>([],[])) fs0 fs0_ok) (.bool) Tryz.kp174 Tryz.func174 rfl ?_
 intro σ
 simp only[tI]
 simp -implicitDefEqProofs (maxSteps:=9^9) (disch:=omega) only[go_sem,simprocAttr]
 refine⟨fun h1=>⟨fun h2=>?_,fun h2=>?_⟩,fun h1=>?_⟩<;> simp[h1, *]
def fs200(f:FuncId)(xs:List AV):Option AV:=if f=174 then rin_s xs else fs0 f xs
theorem fs200_ok{S:MC Tryz.prog}:∀f xs v,fs200 f xs=some v→PureV S f xs v:=by
 intro f xs v h
 unfold fs200 at h
 split at h
 ·rename_i e;subst e;exact rin_ok _ _ h
 exact fs0_ok _ _ _ h
attribute [go_sem] fs200 rin_s
theorem rck_p(x:Rng)(lo hi:Int)(h:okB lo hi x):PureV S 172 [x.av,.int .i64 lo,.int .i64 hi] (.int .i64 0):=by
 refine PvE (Tryz.envOK (S:=S) 28 (fun _=>([],[])) fs200 fs200_ok) (.int) Tryz.kp172 Tryz.func172 rfl ?_
 intro σ
 simp only[Rng.av]
 obtain⟨h1,h2,h3⟩:=h
 simp -implicitDefEqProofs (maxSteps:=9^9) (disch:=omega) only[go_sem,simprocAttr]
def rck_s:=spec3 tRng tI tI fun x lo hi=>if okB lo hi x then some (.int .i64 0) else none
theorem rck_ok:∀xs v,rck_s xs=some v→PureV S 172 xs v:=
 spec3_ok fun x lo hi v h=>by have h:=someIf h;rw[← h.2];exact rck_p x lo hi h.1
def fs201(f:FuncId)(xs:List AV):Option AV:=if f=172 then rck_s xs else fs200 f xs
theorem fs201_ok{S:MC Tryz.prog}:∀f xs v,fs201 f xs=some v→PureV S f xs v:=by
 intro f xs v h
 unfold fs201 at h
 split at h
 ·rename_i e;subst e;exact rck_ok _ _ h
 exact fs200_ok _ _ _ h
attribute [go_sem] fs201 rck_s
def tRs:Ty (List Rng):=⟨decL 2 decRng,fun l=> .list .no 2 (l.map Rng.av),decL_inv' decRng_inv⟩
theorem tRs_dec{a:AV}:tRs.dec a=decL 2 decRng a:=rfl
attribute [go_sem] tRs_dec
def okBs(lo hi:Int)(l:List Rng):Prop:=l.length≤1000∧∀x∈l,okB lo hi x
instance (lo hi:Int)(l:List Rng):Decidable (okBs lo hi l):=by unfold okBs;infer_instance
theorem jrall_p(lo hi:Int)(l:List Rng)(h:okBs lo hi l):PureV S 173 [.int .i64 lo,.int .i64 hi,.list .no 2 (l.map Rng.av)] (.int .i64 0):=by
 refine PvE (Tryz.envOK (S:=S) 24 (fun _=>([],[])) fs201 fs201_ok) (.int) Tryz.kp173 Tryz.func173 rfl ?_
 intro σ
 obtain⟨hl,h⟩:=h
 simp -implicitDefEqProofs (maxSteps:=9^9) (disch:=omega) only[go_sem,simprocAttr]
 refine ARun.forJ (Tryz.envOK (S:=S) 24 (fun _=>([],[])) fs201 fs201_ok) l.length (fun i τ=>∃j,τ=σ++j) (fun i=>[(12,.int .i64 i)]) (by kernel_rfl) (by simp[upd,ins,subF,lookA]) ⟨[],by simp⟩ ?_ ?_
 ·rintro i τ hi ⟨j,rfl⟩ ih
  have hidx:idx (l.map Rng.av) (i:Int)=some l[i].av:=idx_nat hi
  have hx:=h _ (List.getElem_mem hi)
  generalize l[i]=x at hidx hx
  have hxa:x.av= .agg [.int .i64 x.lo,.int .i64 x.hi]:=rfl
  simp -implicitDefEqProofs (maxSteps:=9^9) (disch:=omega) only[go_sem,simprocAttr,hidx,hxa,hx]
  exact(ih _ ⟨j++[.cells [.int .i64 x.lo,.int .i64 x.hi]],rfl⟩).castS (by simp) (by simp[upd,ins,subF,lookA])
 ·rintro τ ⟨j,rfl⟩
  simp -implicitDefEqProofs (maxSteps:=9^9) (disch:=omega) only[go_sem,simprocAttr]
def jrall_s:=spec3 tI tI tRs fun lo hi l=>if okBs lo hi l then some (.int .i64 0) else none
theorem jrall_ok:∀xs v,jrall_s xs=some v→PureV S 173 xs v:=
 spec3_ok fun lo hi l v h=>by have h:=someIf h;rw[← h.2];exact jrall_p lo hi l h.1
def decJb:AV→Option Jb
 | .agg [.int .i64 a1,.int .i64 a2,.int .i64 b1,.int .i64 b2,.int .i64 c1,.int .i64 c2,.int .i64 d1,.int .i64 d2,.int .i64 e1,.int .i64 e2,.int .i64 f1,.int .i64 f2,.int .i64 g1,.int .i64 g2,.int .i64 le,l,.int .i64 w,.int .i64 m]=>
  (decL 2 decRng l).bind fun s=>some ⟨⟨a1,a2⟩,⟨b1,b2⟩,⟨c1,c2⟩,⟨d1,d2⟩,⟨e1,e2⟩,⟨f1,f2⟩,⟨g1,g2⟩,le,s,w,m⟩
 | _=>none
theorem decJb_inv(a:AV)(x:Jb)(h:decJb a=some x):wk a x.av:=by
 unfold decJb at h;split at h
 ·obtain⟨u,h1,h⟩:=Option.bind_eq_some_iff.1 h
  simp at h;subst h
  exact⟨rfl,rfl,rfl,rfl,rfl,rfl,rfl,rfl,rfl,rfl,rfl,rfl,rfl,rfl,rfl,decL_inv decRng_inv h1,rfl,rfl,trivial⟩
 ·cases h
def tJb:Ty Jb:=⟨decJb,Jb.av,fun{a x} h=>decJb_inv a x h⟩
theorem tJb_dec{a:AV}:tJb.dec a=decJb a:=rfl
theorem Jb_eta(j:Jb):(⟨⟨j.pitch.lo,j.pitch.hi⟩,⟨j.tip.lo,j.tip.hi⟩,⟨j.root.lo,j.root.hi⟩,⟨j.up.lo,j.up.hi⟩,⟨j.down.lo,j.down.hi⟩,⟨j.wt.lo,j.wt.hi⟩,⟨j.wr.lo,j.wr.hi⟩,j.least,j.shifts,j.within,j.meter⟩: Jb)=j:=rfl
theorem Jb_eta'(j:Jb):(⟨j.pitch,j.tip,j.root,j.up,j.down,j.wt,j.wr,j.least,j.shifts,j.within,j.meter⟩: Jb)=j:=rfl
attribute [go_sem] tJb_dec decJb Jb_eta Jb_eta'
def fs202(f:FuncId)(xs:List AV):Option AV:=if f=173 then jrall_s xs else fs201 f xs
theorem fs202_ok{S:MC Tryz.prog}:∀f xs v,fs202 f xs=some v→PureV S f xs v:=by
 intro f xs v h
 unfold fs202 at h
 split at h
 ·rename_i e;subst e;exact jrall_ok _ _ h
 exact fs201_ok _ _ _ h
attribute [go_sem] fs202 jrall_s
theorem jck_p(j:Jb)(h:OkJ j):PureV S 134 [j.av] (.int .i64 0):=by
 refine PvE (Tryz.envOK (S:=S) 67 (fun _=>([],[])) fs202 fs202_ok) (.int) Tryz.kp134 Tryz.func134 rfl ?_
 intro σ
 simp only[Jb.av,Jb.cells]
 have e1:okB (-60) 60 ⟨j.pitch.lo,j.pitch.hi⟩:=h.pitch
 have e2:okBs 0 100 [⟨j.tip.lo,j.tip.hi⟩,⟨j.root.lo,j.root.hi⟩]:=⟨by simp,by simp;exact⟨h.tip,h.root⟩⟩
 have e3:okBs 0 12 [⟨j.up.lo,j.up.hi⟩,⟨j.down.lo,j.down.hi⟩,⟨j.wt.lo,j.wt.hi⟩,⟨j.wr.lo,j.wr.hi⟩]:=⟨by simp,by simp;exact⟨h.up,h.down,h.wt,h.wr⟩⟩
 have e4:okBs (-60) 60 j.shifts:=⟨by have:=h.len;omega,h.shifts⟩
 have h1:=h.least
 have h2:=h.len
 have h3:=h.within
 have h4:=h.meter
 clear h
 simp -implicitDefEqProofs (maxSteps:=9^9) (disch:=omega) only[go_sem,simprocAttr,e1,e2,e3,e4,Rng_eta]
def jck_s:=spec1 tJb fun j=>if OkJ j then some (.int .i64 0) else none
theorem jck_ok:∀xs v,jck_s xs=some v→PureV S 134 xs v:=
 spec1_ok fun j v h=>by have h:=someIf h;rw[← h.2];exact jck_p j h.1
def bigR(x:Rng):Prop:=(-1000000≤x.lo∧x.lo≤1000000)∧(-1000000≤x.hi∧x.hi≤1000000)
instance (x:Rng):Decidable (bigR x):=by unfold bigR;infer_instance
theorem meet2_lo(y x:Rng):(meet2 y x).lo=if y.lo<x.lo then x.lo else y.lo:=by simp only[meet2];split<;> omega
theorem meet2_hi(y x:Rng):(meet2 y x).hi=if x.hi<y.hi then x.hi else y.hi:=by simp only[meet2];split<;> omega
theorem meet_p(f:Rng)(l:List Rng)(hl:l.length≤1000):PureV S 176 [f.av,.list .no 2 (l.map Rng.av)] (meetL f l).av:=by
 refine PvE (Tryz.envOK (S:=S) 26 (fun _=>([],[])) fs0 fs0_ok) (Rng.plain _) Tryz.kp176 Tryz.func176 rfl ?_
 intro σ
 simp only[Rng.av]
 simp -implicitDefEqProofs (maxSteps:=9^9) (disch:=omega) only[go_sem,simprocAttr]
 refine ARun.forJ (Tryz.envOK (S:=S) 26 (fun _=>([],[])) fs0 fs0_ok) l.length (fun i τ=>∃j,τ=σ++((AObj.cells [.int .i64 (meetL f (l.take i)).lo,.int .i64 (meetL f (l.take i)).hi]):: .cells [.int .i64 0,.int .i64 0]::j)) (fun i=>[(9,.int .i64 i)]) (by kernel_rfl) (by simp[upd,ins,subF,lookA]) ⟨[],by simp[meetL]⟩ ?_ ?_
 ·rintro i τ hi ⟨j,rfl⟩ ih
  have hidx:idx (l.map Rng.av) (i:Int)=some l[i].av:=idx_nat hi
  have ht:meetL f (l.take (i+1))=meet2 (meetL f (l.take i)) l[i]:=by unfold meetL;rw[foldl_take _ _ _ _ hi]
  rw[ht] at ih
  generalize meetL f (l.take i)=y at ih⊢
  generalize l[i]=x at hidx ih
  have hxa:x.av= .agg [.int .i64 x.lo,.int .i64 x.hi]:=rfl
  simp -implicitDefEqProofs (maxSteps:=9^9) (disch:=omega) only[go_sem,simprocAttr,hidx,hxa]
  refine(ih _ ⟨j++[.cells [.int .i64 x.lo,.int .i64 x.hi]],rfl⟩).castS ?_ (by simp[upd,ins,subF,lookA])
  rw[meet2_lo,meet2_hi]
 ·rintro τ ⟨j,rfl⟩
  rw[List.take_length]
  simp -implicitDefEqProofs (maxSteps:=9^9) (disch:=omega) only[go_sem,simprocAttr]
theorem jhas_p(x y:Rng):PureV S 177 [x.av,y.av] (.bool (hasR x y)):=by
 refine PvE (Tryz.envOK (S:=S) 17 (fun _=>([],[])) fs0 fs0_ok) (.bool) Tryz.kp177 Tryz.func177 rfl ?_
 intro σ
 simp only[Rng.av]
 simp -implicitDefEqProofs (maxSteps:=9^9) (disch:=omega) only[go_sem,simprocAttr]
 refine⟨fun h1=>⟨fun h2=>?_,fun h2=>?_⟩,fun h1=>?_⟩<;> simp[hasR,h1, *]
theorem plus_p(x y:Rng)(hx:bigR x)(hy:bigR y):PureV S 238 [x.av,y.av] (plusR x y).av:=by
 refine PvE (Tryz.envOK (S:=S) 16 (fun _=>([],[])) fs0 fs0_ok) (Rng.plain _) Tryz.kp238 Tryz.func238 rfl ?_
 intro σ
 obtain⟨h1,h2⟩:=hx
 obtain⟨h3,h4⟩:=hy
 simp only[Rng.av,plusR]
 simp -implicitDefEqProofs (maxSteps:=9^9) (disch:=omega) only[go_sem,simprocAttr]
theorem jless_p(x y:Rng)(hx:bigR x)(hy:bigR y):PureV S 227 [x.av,y.av] (lessR x y).av:=by
 refine PvE (Tryz.envOK (S:=S) 16 (fun _=>([],[])) fs0 fs0_ok) (Rng.plain _) Tryz.kp227 Tryz.func227 rfl ?_
 intro σ
 obtain⟨h1,h2⟩:=hx
 obtain⟨h3,h4⟩:=hy
 simp only[Rng.av,lessR]
 simp -implicitDefEqProofs (maxSteps:=9^9) (disch:=omega) only[go_sem,simprocAttr]
theorem idx_cons0{x:AV}{l:List AV}:idx (x::l) 0=some x:=rfl
attribute [go_sem] idx_cons0
def rmeet_s:=spec2 tRng tRs fun f l=>if l.length≤1000 then some (meetL f l).av else none
theorem rmeet_ok:∀xs v,rmeet_s xs=some v→PureV S 176 xs v:=
 spec2_ok fun f l v h=>by have h:=someIf h;rw[← h.2];exact meet_p f l h.1
def rhas_s:=spec2 tRng tRng fun x y=>some (.bool (hasR x y))
theorem rhas_ok:∀xs v,rhas_s xs=some v→PureV S 177 xs v:=
 spec2_ok fun x y v h=>by simp only[Option.some.injEq] at h;subst h;exact jhas_p x y
def rplus_s:=spec2 tRng tRng fun x y=>if bigR x∧bigR y then some (plusR x y).av else none
theorem rplus_ok:∀xs v,rplus_s xs=some v→PureV S 238 xs v:=
 spec2_ok fun x y v h=>by have h:=someIf h;rw[← h.2];exact plus_p x y h.1.1 h.1.2
def rless_s:=spec2 tRng tRng fun x y=>if bigR x∧bigR y then some (lessR x y).av else none
theorem rless_ok:∀xs v,rless_s xs=some v→PureV S 227 xs v:=
 spec2_ok fun x y v h=>by have h:=someIf h;rw[← h.2];exact jless_p x y h.1.1 h.1.2
def fs203(f:FuncId)(xs:List AV):Option AV:=if f=134 then jck_s xs else if f=176 then rmeet_s xs else if f=177 then rhas_s xs else if f=238 then rplus_s xs else if f=227 then rless_s xs else fs202 f xs
theorem fs203_ok{S:MC Tryz.prog}:∀f xs v,fs203 f xs=some v→PureV S f xs v:=by
 intro f xs v h
 unfold fs203 at h
 split at h
 ·rename_i e;subst e;exact jck_ok _ _ h
 split at h
 ·rename_i e;subst e;exact rmeet_ok _ _ h
 split at h
 ·rename_i e;subst e;exact rhas_ok _ _ h
 split at h
 ·rename_i e;subst e;exact rplus_ok _ _ h
 split at h
 ·rename_i e;subst e;exact rless_ok _ _ h
 exact fs202_ok _ _ _ h
attribute [go_sem] fs203 jck_s rmeet_s rhas_s rplus_s rless_s
theorem drop_take1{x:AV}{A:List Rng}:List.drop 1 (List.take ((A.length:Int)+1).toNat (x::A.map Rng.av))=A.map Rng.av:=by
 have:((A.length:Int)+1).toNat=A.length+1:=by omega
 rw[this,List.take_succ_cons,List.drop_succ_cons,List.drop_zero,List.take_of_length_le (by simp)]
theorem strict_small{j:Jb}(h:OkJ j){s:Rng}(hs:s∈j.shifts):((-120≤0-j.within-s.lo∧0-j.within-s.lo≤120)∧(-120≤j.within-s.hi∧j.within-s.hi≤120))∧((-120≤0-j.within-s.hi∧0-j.within-s.hi≤120)∧(-120≤j.within-s.lo∧j.within-s.lo≤120)):=by
 obtain⟨h1,h2,h3⟩:=h.shifts s hs
 have:=h.within
 omega
theorem windows_p(j:Jb)(h:OkJ j):PureV S 175 [j.av] (.tup [(winS j).av,(mayS j).av]):=by
 refine PvE (Tryz.envOK (S:=S) 69 Tryz.ord175 fs203 fs203_ok) (.tup (by simp;exact⟨Rng.plain _,Rng.plain _⟩)) Tryz.kp175 Tryz.func175 rfl ?_
 intro σ
 have hw:=h.within
 have hl:=h.len
 cases hsh:j.shifts with
 | nil=>
  have e1:winS j=⟨0-j.within,j.within⟩:=by unfold winS;rw[hsh];rfl
  have e2:mayS j=⟨0-j.within,j.within⟩:=by unfold mayS;rw[hsh];rfl
  rw[e1,e2]
  simp only[Jb.av,Jb.cells,hsh,List.map_nil]
  clear h e1 e2
  simp -implicitDefEqProofs (maxSteps:=9^9) (disch:=omega) only[go_sem,simprocAttr]
  exact⟨rfl,rfl,trivial⟩
 | cons s0 rest=>
  have hsm:=fun s hs=>strict_small h (s:=s) hs
  have e1:winS j=meetL (strictR j.within s0) (rest.map (strictR j.within)):=by unfold winS;rw[hsh];rfl
  have e2:mayS j=meetL (looseR j.within s0) (rest.map (looseR j.within)):=by unfold mayS;rw[hsh];rfl
  rw[e1,e2]
  have hne:0<j.shifts.length:=by rw[hsh];simp
  simp only[Jb.av,Jb.cells]
  clear h e1 e2
  obtain⟨L,hL⟩:∃L,L=j.shifts:=⟨_,rfl⟩
  rw[← hL] at hsh hl hne hsm⊢
  obtain⟨w,hw2⟩:∃w,w=j.within:=⟨_,rfl⟩
  rw[← hw2] at hsm hw⊢
  generalize hjc:j.pitch.lo=p1
  generalize j.pitch.hi=p2
  generalize j.tip.lo=p3
  generalize j.tip.hi=p4
  generalize j.root.lo=p5
  generalize j.root.hi=p6
  generalize j.up.lo=p7
  generalize j.up.hi=p8
  generalize j.down.lo=p9
  generalize j.down.hi=p10
  generalize j.wt.lo=p11
  generalize j.wt.hi=p12
  generalize j.wr.lo=p13
  generalize j.wr.hi=p14
  generalize j.least=p15
  generalize j.meter=p16
  clear hL hw2 hjc
  simp -implicitDefEqProofs (maxSteps:=9^9) (disch:=omega) only[go_sem,simprocAttr]
  refine ARun.ghost 5 2 (sz0:=0) rfl (by simp[lookA]) ?_
  simp only[ins,↓reduceIte,List.append_assoc,List.cons_append,List.nil_append,List.length_append,List.length_cons,List.length_nil,Nat.zero_add,Nat.reduceEqDiff,Nat.add_assoc,Nat.reduceAdd]
  refine ARun.ghost 6 2 (sz0:=0) rfl (by simp[lookA]) ?_
  simp only[ins,↓reduceIte,List.append_assoc,List.cons_append,List.nil_append,List.length_append,List.length_cons,List.length_nil,Nat.zero_add,Nat.reduceEqDiff,Nat.add_assoc,Nat.reduceAdd]
  refine ARun.forJ (Tryz.envOK (S:=S) 69 Tryz.ord175 fs203 fs203_ok) L.length (fun i τ=>∃J,τ=σ++((.cells [.int .i64 p1,.int .i64 p2,.int .i64 p3,.int .i64 p4,.int .i64 p5,.int .i64 p6,.int .i64 p7,.int .i64 p8,.int .i64 p9,.int .i64 p10,.int .i64 p11,.int .i64 p12,.int .i64 p13,.int .i64 p14,.int .i64 p15,.list .no 2 (L.map Rng.av),.int .i64 w,.int .i64 p16]):: .cells [.int .i64 0,.int .i64 0]:: .cells [.int .i64 0,.int .i64 0]:: .cells [.int .i64 (0-w),.int .i64 w]:: .tail i 2:: .tail i 2::J)) (fun i=>[(5,.list (.own (σ.length+4)) 2 (((L.take i).map (strictR w)).map Rng.av)),(6,.list (.own (σ.length+5)) 2 (((L.take i).map (looseR w)).map Rng.av)),(24,.int .i64 i)]) (by kernel_rfl) (by simp[upd,ins,subF,lookA]) ⟨[],by simp⟩ ?_ ?_
  ·rintro i τ hi ⟨J,rfl⟩ ih
   have hidx:idx (L.map Rng.av) (i:Int)=some L[i].av:=idx_nat hi
   have hb:=hsm _ (List.getElem_mem hi)
   have e3:(L.take (i+1)).map (strictR w)=(L.take i).map (strictR w)++[strictR w L[i]]:=by rw[List.take_succ_eq_append_getElem hi,List.map_append];rfl
   have e4:(L.take (i+1)).map (looseR w)=(L.take i).map (looseR w)++[looseR w L[i]]:=by rw[List.take_succ_eq_append_getElem hi,List.map_append];rfl
   rw[e3,e4] at ih
   have l1:((L.take i).map (strictR w)).length=i:=by simp;omega
   have l2:((L.take i).map (looseR w)).length=i:=by simp;omega
   generalize (L.take i).map (strictR w)=A at ih l1⊢
   generalize (L.take i).map (looseR w)=B at ih l2⊢
   generalize L[i]=x at hidx hb ih
   have hxa:x.av= .agg [.int .i64 x.lo,.int .i64 x.hi]:=rfl
   clear hsm hsh e3 e4
   simp -implicitDefEqProofs (maxSteps:=9^9) (disch:=omega) only[go_sem,simprocAttr,hidx,hxa,l1,l2]
   refine(ih _ ⟨J++[.cells [.int .i64 x.lo,.int .i64 x.hi]],rfl⟩).castS (by simp) (by simp[upd,ins,subF,lookA,Rng.av,strictR,looseR])
  ·rintro τ ⟨J,rfl⟩
   have hr:rest.length≤1000:=by rw[hsh] at hl;simp at hl;omega
   clear hsm hl hne
   rw[List.take_length,hsh]
   simp only[List.map_cons]
   obtain⟨x,hx⟩:∃x,strictR w s0=x:=⟨_,rfl⟩
   obtain⟨y,hy⟩:∃y,looseR w s0=y:=⟨_,rfl⟩
   rw[hx,hy]
   have hxa:x.av= .agg [.int .i64 x.lo,.int .i64 x.hi]:=rfl
   have hya:y.av= .agg [.int .i64 y.lo,.int .i64 y.hi]:=rfl
   have hl1:(rest.map (strictR w)).length≤1000:=by simp;omega
   have hl2:(rest.map (looseR w)).length≤1000:=by simp;omega
   generalize rest.map (strictR w)=A at hl1⊢
   generalize rest.map (looseR w)=B at hl2⊢
   simp -implicitDefEqProofs (maxSteps:=9^9) (disch:=omega) only[go_sem,simprocAttr,Rng.av,drop_take1]
end Go.Proofs
