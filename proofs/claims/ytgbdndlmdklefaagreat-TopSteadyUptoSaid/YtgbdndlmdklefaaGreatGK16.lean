/- Texts of a proof: lemmas. -/
import Derived.Test.YtgbdndlmdklefaaGreatGK14
import Derived.Test.YtgbdndlmdklefaaGreatGK15
import Derived.Test.YtgbdndlmdklefaaGreatGK10
import Derived.Test.YtgbdndlmdklefaaGreatGK13
set_option linter.unusedSimpArgs false
set_option linter.unusedVariables false
set_option maxRecDepth 100000
set_option maxHeartbeats 40000000
namespace Go.Proofs
open Go Go.Mu
variable {S:MC Tryz.prog}
def windows_s:=spec1 tJb fun j=>if OkJ j then some (.tup [(winS j).av,(mayS j).av]) else none
theorem windows_ok:∀xs v,windows_s xs=some v→PureV S 175 xs v:=
 spec1_ok fun j v h=>by have h:=someIf h;rw[← h.2];exact windows_p j h.1
def fs204(f:FuncId)(xs:List AV):Option AV:=if f=175 then windows_s xs else fs203 f xs
theorem fs204_ok{S:MC Tryz.prog}:∀f xs v,fs204 f xs=some v→PureV S f xs v:=by
 intro f xs v h
 unfold fs204 at h
 split at h
 ·rename_i e;subst e;exact windows_ok _ _ h
 exact fs203_ok _ _ _ h
attribute [go_sem] fs204 windows_s
theorem passes_p(j:Jb)(p:Rng)(h:OkJ j):PureV S 135 [j.av,p.av] (.int .i64 (passS j p)):=by
 refine PvE (Tryz.envOK (S:=S) 27 (fun _=>([],[])) fs204 fs204_ok) (.int) Tryz.kp135 Tryz.func135 rfl ?_
 intro σ
 simp only[Rng.av,Jb.av,Jb.cells]
 have hm:∀x:Rng,meetL x [p]=meet2 x p:=fun _=>rfl
 cases hb:hasR (winS j) p
 ·simp -implicitDefEqProofs (maxSteps:=9^9) (disch:=omega) only[go_sem,simprocAttr,h,hm,Rng.av,hb]
  simp only[passS,hb];grind
 ·simp -implicitDefEqProofs (maxSteps:=9^9) (disch:=omega) only[go_sem,simprocAttr,h,hm,Rng.av,hb]
  simp only[passS,hb,if_true]
def stlv(p t r:Rng)(j:Jb):AV:= .agg ([.int .i64 p.lo,.int .i64 p.hi,.int .i64 t.lo,.int .i64 t.hi,.int .i64 r.lo,.int .i64 r.hi]++j.file)
theorem stlv_plain(p t r:Rng)(j:Jb):Plain (stlv p t r j):= .agg (by
 intro c hc
 simp only[Jb.file,List.cons_append,List.nil_append,List.mem_cons,List.not_mem_nil,or_false] at hc
 rcases hc with h | h | h | h | h | h | h | h | h | h | h | h | h | h | h<;> (subst h;exact .int))
theorem okB_big{x:Rng}(h:okB 0 12 x):bigR x:=by
 obtain⟨h1,h2,h3⟩:=h
 exact⟨by omega,by omega⟩
structure OkF(j:Jb):Prop where
 up:okB 0 12 j.up
 down:okB 0 12 j.down
 wt:okB 0 12 j.wt
 wr:okB 0 12 j.wr
 least:0≤j.least∧j.least≤100
theorem spoiled_p(p t r:Rng)(j:Jb):PureV S 228 [stlv p t r j] (.int .i64 (spoilS t r j.least)):=by
 refine PvE (Tryz.envOK (S:=S) 41 (fun _=>([],[])) fs204 fs204_ok) (.int) Tryz.kp228 Tryz.func228 rfl ?_
 intro σ
 simp only[stlv,Jb.file,List.cons_append,List.nil_append]
 simp -implicitDefEqProofs (maxSteps:=9^9) (disch:=omega) only[go_sem,simprocAttr]
 simp only[spoilS];grind
theorem filed_p(p t r:Rng)(j:Jb)(k:Int)(hj:OkF j)(hp:bigR p)(ht:bigR t)(hr:bigR r)(hk:k=1∨k=2) :
  PureV S 226 [stlv p t r j,.int .i64 k] (stlv (if k=1 then plusR p j.up else lessR p j.down) (if k=1 then lessR t j.wt else t) (if k=1 then r else lessR r j.wr) j):=by
 refine PvE (Tryz.envOK (S:=S) 47 Tryz.ord226 fs204 fs204_ok) (stlv_plain _ _ _ _) Tryz.kp226 Tryz.func226 rfl ?_
 intro σ
 have hu:=okB_big hj.up
 have hd:=okB_big hj.down
 have hwt:=okB_big hj.wt
 have hwr:=okB_big hj.wr
 simp only[stlv,Jb.file,List.cons_append,List.nil_append]
 rcases hk with rfl | rfl
 ·simp -implicitDefEqProofs (maxSteps:=9^9) (disch:=omega) only[go_sem,simprocAttr,Rng_eta,Rng.av,plusR,lessR,hp,ht,hr,hu,hd,hwt,hwr]
 ·simp -implicitDefEqProofs (maxSteps:=9^9) (disch:=omega) only[go_sem,simprocAttr,Rng_eta,Rng.av,plusR,lessR,hp,ht,hr,hu,hd,hwt,hwr]
def passes_s:=spec2 tJb tRng fun j p=>if OkJ j then some (.int .i64 (passS j p)) else none
theorem passes_ok:∀xs v,passes_s xs=some v→PureV S 135 xs v:=
 spec2_ok fun j p v h=>by have h:=someIf h;rw[← h.2];exact passes_p j p h.1
structure Stl where
 p:Rng
 t:Rng
 r:Rng
 j:Jb
def decStl:AV→Option Stl
 | .agg [.int .i64 a1,.int .i64 a2,.int .i64 b1,.int .i64 b2,.int .i64 c1,.int .i64 c2,.int .i64 d1,.int .i64 d2,.int .i64 e1,.int .i64 e2,.int .i64 f1,.int .i64 f2,.int .i64 g1,.int .i64 g2,.int .i64 le]=>
  some ⟨⟨a1,a2⟩,⟨b1,b2⟩,⟨c1,c2⟩,⟨⟨0,0⟩,⟨0,0⟩,⟨0,0⟩,⟨d1,d2⟩,⟨e1,e2⟩,⟨f1,f2⟩,⟨g1,g2⟩,le,[],0,0⟩⟩
 | _=>none
theorem decStl_inv(a:AV)(x:Stl)(h:decStl a=some x):wk a (stlv x.p x.t x.r x.j):=by
 unfold decStl at h;split at h
 ·simp at h;subst h
  exact⟨rfl,rfl,rfl,rfl,rfl,rfl,rfl,rfl,rfl,rfl,rfl,rfl,rfl,rfl,rfl,trivial⟩
 ·cases h
def tStl:Ty Stl:=⟨decStl,fun x=>stlv x.p x.t x.r x.j,fun{a x} h=>decStl_inv a x h⟩
theorem tStl_dec{a:AV}:tStl.dec a=decStl a:=rfl
attribute [go_sem] tStl_dec decStl
def spoiled_s:=spec1 tStl fun x=>some (.int .i64 (spoilS x.t x.r x.j.least))
theorem spoiled_ok:∀xs v,spoiled_s xs=some v→PureV S 228 xs v:=
 spec1_ok fun x v h=>by simp only[Option.some.injEq] at h;subst h;exact spoiled_p x.p x.t x.r x.j
instance (j:Jb):Decidable (OkF j):=
 decidable_of_iff (okB 0 12 j.up∧okB 0 12 j.down∧okB 0 12 j.wt∧okB 0 12 j.wr∧(0≤j.least∧j.least≤100)) ⟨fun⟨a,b,c,d,e⟩=>⟨a,b,c,d,e⟩,fun⟨a,b,c,d,e⟩=>⟨a,b,c,d,e⟩⟩
def okStl(x:Stl)(k:Int):Prop:=OkF x.j∧bigR x.p∧bigR x.t∧bigR x.r∧(k=1∨k=2)
instance (x:Stl)(k:Int):Decidable (okStl x k):=by unfold okStl;infer_instance
def filed_s:=spec2 tStl tI fun x k=>if okStl x k then some (stlv (if k=1 then plusR x.p x.j.up else lessR x.p x.j.down) (if k=1 then lessR x.t x.j.wt else x.t) (if k=1 then x.r else lessR x.r x.j.wr) x.j) else none
theorem filed_ok:∀xs v,filed_s xs=some v→PureV S 226 xs v:=
 spec2_ok fun x k v h=>by have h:=someIf h;rw[← h.2];exact filed_p x.p x.t x.r x.j k h.1.1 h.1.2.1 h.1.2.2.1 h.1.2.2.2.1 h.1.2.2.2.2
def fs205(f:FuncId)(xs:List AV):Option AV:=if f=135 then passes_s xs else if f=228 then spoiled_s xs else if f=226 then filed_s xs else fs204 f xs
theorem fs205_ok{S:MC Tryz.prog}:∀f xs v,fs205 f xs=some v→PureV S f xs v:=by
 intro f xs v h
 unfold fs205 at h
 split at h
 ·rename_i e;subst e;exact passes_ok _ _ h
 split at h
 ·rename_i e;subst e;exact spoiled_ok _ _ h
 split at h
 ·rename_i e;subst e;exact filed_ok _ _ h
 exact fs204_ok _ _ _ h
attribute [go_sem] fs205 passes_s spoiled_s filed_s
theorem OkJ.file{j:Jb}(h:OkJ j):OkF j:=⟨h.up,h.down,h.wt,h.wr,h.least⟩
structure Kn where
 p:Rng
 t:Nat
 r:Nat
 left:Nat
 deriving DecidableEq,Inhabited
def Kn.cells(k:Kn):List AV:=[.int .i64 k.p.lo,.int .i64 k.p.hi,.int .i64 (k.t:Int),.int .i64 (k.r:Int),.int .i64 (k.left:Int)]
def Kn.av(k:Kn):AV:= .agg k.cells
def gamev(j:Jb)(w:Rng)(f:AV):AV:= .agg (j.cells++[.int .i64 w.lo,.int .i64 w.hi,f])
def mvK(j:Jb)(k:Kn)(s:Int):Kn:=if s=1 then⟨plusR k.p j.up,k.t+1,k.r,k.left-1⟩ else⟨lessR k.p j.down,k.t,k.r+1,k.left-1⟩
structure OkK(k:Kn):Prop where
 p:bigR k.p
 t:k.t≤1000
 r:k.r≤1000
 left:k.left≤1000
theorem okB_bigS{x:Rng}(h:okB 0 100 x):bigR x:=by
 obtain⟨h1,h2,h3⟩:=h
 exact⟨by omega,by omega⟩
theorem wearL_big{x w:Rng}(hx:okB 0 100 x)(hw:okB 0 12 w):∀n:Nat,(0-12*(n:Int)≤(wearL x w n).lo∧(wearL x w n).lo≤100)∧(0-12*(n:Int)≤(wearL x w n).hi∧(wearL x w n).hi≤100)
 | 0=>by
  obtain⟨h1,h2,h3⟩:=hx
  simp only[wearL];omega
 | n+1=>by
  have ih:=wearL_big hx hw n
  obtain⟨h1,h2,h3⟩:=hw
  simp only[wearL,lessR];omega
theorem moved_c(j:Jb)(w:Rng)(f:AV)(hf1:f.cells=[f])(hf:f.flat=true)(k:Kn)(s:Int)(hj:OkJ j)(hk:OkK k)(hl:1≤k.left)(hs:s=1∨s=2)(σ:List AObj)(Q:AV→List AObj→Prop)
  (h:∀junk,Q (.tup [(mvK j k s).av,.bool (okS j (mvK j k s).t (mvK j k s).r)]) (σ++junk)) :
  ACalls S 207 [gamev j w f,k.av,.int .i64 s] σ Q:=by
 refine AcE (Tryz.envOK (S:=S) 74 Tryz.ord207 fs205 fs205_ok) Tryz.kp207 Tryz.func207 rfl ?_
 simp only[gamev,Jb.cells,Kn.av,Kn.cells,List.cons_append,List.nil_append]
 have hup:=hj.up
 have hdn:=hj.down
 have hfl:OkF ⟨⟨0,0⟩,⟨0,0⟩,⟨0,0⟩,j.up,j.down,j.wt,j.wr,j.least,[],0,0⟩:=⟨hj.up,hj.down,hj.wt,hj.wr,hj.least⟩
 have wb1:=fun n=>wearL_big hj.tip hj.wt n
 have wb2:=fun n=>wearL_big hj.root hj.wr n
 have hwt:=okB_big hj.wt
 have hwr:=okB_big hj.wr
 have hkb:=hk.p
 have hkt:=hk.t
 have hkr:=hk.r
 have hkl:=hk.left
 have hb1:=okB_bigS hj.tip
 have hb2:=okB_bigS hj.root
 clear hk
 rcases hs with rfl | rfl
 ·obtain⟨T,hT⟩:∃T,T=k.t+1:=⟨_,rfl⟩
  obtain⟨R,hR⟩:∃R,R=k.r:=⟨_,rfl⟩
  obtain⟨L,hL⟩:∃L,L=k.left-1:=⟨_,rfl⟩
  have eK:mvK j k 1=⟨(plusR k.p j.up),T,R,L⟩:=by rw[hT,hR,hL];rfl
  rw[eK] at h
  have eT:(k.t:Int)+1=(T:Int):=by omega
  have eT2:(k.r:Int)=(R:Int):=by omega
  have eL:(k.left:Int)-1=(L:Int):=by omega
  have bT:T≤2000:=by omega
  have bR:R≤2000:=by omega
  have bL:L≤1000:=by omega
  simp -implicitDefEqProofs (maxSteps:=9^9) (disch:=omega) only[go_sem,simprocAttr,Rng_eta,okStl,hfl,hkb,hb1,hb2,stlv,Jb.file,eT,eT2,eL,hf1,hf]
  clear hkt hkr hkl hl eT eT2 eL hfl hb1 hb2 hup hdn hT hR hL eK hj
  refine ARun.forJ (Tryz.envOK (S:=S) 74 Tryz.ord207 fs205 fs205_ok) T (fun i τ=>τ=σ++[.cells [.int .i64 j.pitch.lo,.int .i64 j.pitch.hi,.int .i64 j.tip.lo,.int .i64 j.tip.hi,.int .i64 j.root.lo,.int .i64 j.root.hi,.int .i64 j.up.lo,.int .i64 j.up.hi,.int .i64 j.down.lo,.int .i64 j.down.hi,.int .i64 j.wt.lo,.int .i64 j.wt.hi,.int .i64 j.wr.lo,.int .i64 j.wr.hi,.int .i64 j.least,.list .no 2 (j.shifts.map Rng.av),.int .i64 j.within,.int .i64 j.meter,.int .i64 w.lo,.int .i64 w.hi,f],.cells [.int .i64 (plusR k.p j.up).lo,.int .i64 (plusR k.p j.up).hi,.int .i64 (T:Int),.int .i64 (R:Int),.int .i64 (L:Int)],.cells [.int .i64 0,.int .i64 0,.int .i64 0,.int .i64 0,.int .i64 0],.cells [.int .i64 k.p.lo,.int .i64 k.p.hi,.int .i64 (wearL j.tip j.wt i).lo,.int .i64 (wearL j.tip j.wt i).hi,.int .i64 j.root.lo,.int .i64 j.root.hi,.int .i64 j.up.lo,.int .i64 j.up.hi,.int .i64 j.down.lo,.int .i64 j.down.hi,.int .i64 j.wt.lo,.int .i64 j.wt.hi,.int .i64 j.wr.lo,.int .i64 j.wr.hi,.int .i64 j.least],.cells [.int .i64 (plusR k.p j.up).lo,.int .i64 (plusR k.p j.up).hi,.int .i64 (lessR j.tip j.wt).lo,.int .i64 (lessR j.tip j.wt).hi,.int .i64 j.root.lo,.int .i64 j.root.hi,.int .i64 j.up.lo,.int .i64 j.up.hi,.int .i64 j.down.lo,.int .i64 j.down.hi,.int .i64 j.wt.lo,.int .i64 j.wt.hi,.int .i64 j.wr.lo,.int .i64 j.wr.hi,.int .i64 j.least]]) (fun i=>[(44,.int .i64 i)]) (by kernel_rfl) (by simp[upd,ins,subF,lookA]) rfl ?_ ?_
  ·rintro i τ hi rfl ih
   have e1:bigR (wearL j.tip j.wt i):=by have:=wb1 i;exact⟨by omega,by omega⟩
   have e2:wearL j.tip j.wt (i+1)=lessR (wearL j.tip j.wt i) j.wt:=rfl
   rw[e2] at ih
   generalize wearL j.tip j.wt i=y at ih e1⊢
   clear wb1 wb2 h
   simp -implicitDefEqProofs (maxSteps:=9^9) (disch:=omega) only[go_sem,simprocAttr,Rng_eta,Rng.av,e1,hwt]
   exact(ih _ rfl).castS rfl (by simp[upd,ins,subF,lookA])
  ·rintro τ rfl
   have eO:okS j T R=decide (spoilS (wearL j.tip j.wt T) (wearL j.root j.wr R) j.least=2):=by unfold okS;rw[Bool.eq_iff_iff];simp
   simp only[Kn.av,Kn.cells,eO] at h
   clear eO
   generalize wearL j.tip j.wt T=y1 at h⊢
   simp -implicitDefEqProofs (maxSteps:=9^9) (disch:=omega) only[go_sem,simprocAttr]
   refine ARun.forJ (Tryz.envOK (S:=S) 74 Tryz.ord207 fs205 fs205_ok) R (fun i τ=>τ=σ++[.cells [.int .i64 j.pitch.lo,.int .i64 j.pitch.hi,.int .i64 j.tip.lo,.int .i64 j.tip.hi,.int .i64 j.root.lo,.int .i64 j.root.hi,.int .i64 j.up.lo,.int .i64 j.up.hi,.int .i64 j.down.lo,.int .i64 j.down.hi,.int .i64 j.wt.lo,.int .i64 j.wt.hi,.int .i64 j.wr.lo,.int .i64 j.wr.hi,.int .i64 j.least,.list .no 2 (j.shifts.map Rng.av),.int .i64 j.within,.int .i64 j.meter,.int .i64 w.lo,.int .i64 w.hi,f],.cells [.int .i64 (plusR k.p j.up).lo,.int .i64 (plusR k.p j.up).hi,.int .i64 (T:Int),.int .i64 (R:Int),.int .i64 (L:Int)],.cells [.int .i64 0,.int .i64 0,.int .i64 0,.int .i64 0,.int .i64 0],.cells [.int .i64 k.p.lo,.int .i64 k.p.hi,.int .i64 y1.lo,.int .i64 y1.hi,.int .i64 (wearL j.root j.wr i).lo,.int .i64 (wearL j.root j.wr i).hi,.int .i64 j.up.lo,.int .i64 j.up.hi,.int .i64 j.down.lo,.int .i64 j.down.hi,.int .i64 j.wt.lo,.int .i64 j.wt.hi,.int .i64 j.wr.lo,.int .i64 j.wr.hi,.int .i64 j.least],.cells [.int .i64 (plusR k.p j.up).lo,.int .i64 (plusR k.p j.up).hi,.int .i64 (lessR j.tip j.wt).lo,.int .i64 (lessR j.tip j.wt).hi,.int .i64 j.root.lo,.int .i64 j.root.hi,.int .i64 j.up.lo,.int .i64 j.up.hi,.int .i64 j.down.lo,.int .i64 j.down.hi,.int .i64 j.wt.lo,.int .i64 j.wt.hi,.int .i64 j.wr.lo,.int .i64 j.wr.hi,.int .i64 j.least]]) (fun i=>[(58,.int .i64 i)]) (by kernel_rfl) (by simp[upd,ins,subF,lookA]) rfl ?_ ?_
   ·rintro i τ hi rfl ih
    have e1:bigR (wearL j.root j.wr i):=by have:=wb2 i;exact⟨by omega,by omega⟩
    have e2:wearL j.root j.wr (i+1)=lessR (wearL j.root j.wr i) j.wr:=rfl
    rw[e2] at ih
    generalize wearL j.root j.wr i=y at ih e1⊢
    clear wb1 wb2 h
    simp -implicitDefEqProofs (maxSteps:=9^9) (disch:=omega) only[go_sem,simprocAttr,Rng_eta,Rng.av,e1,hwr]
    exact(ih _ rfl).castS rfl (by simp[upd,ins,subF,lookA])
   ·rintro τ rfl
    generalize wearL j.root j.wr R=y2 at h⊢
    clear wb1 wb2
    simp -implicitDefEqProofs (maxSteps:=9^9) (disch:=omega) only[go_sem,simprocAttr,Rng_eta]
    exact⟨fun e=>by simp only[decide_eq_true e] at h;exact h _,fun e=>by simp only[decide_eq_false e] at h;exact h _⟩
 ·obtain⟨T,hT⟩:∃T,T=k.t:=⟨_,rfl⟩
  obtain⟨R,hR⟩:∃R,R=k.r+1:=⟨_,rfl⟩
  obtain⟨L,hL⟩:∃L,L=k.left-1:=⟨_,rfl⟩
  have eK:mvK j k 2=⟨(lessR k.p j.down),T,R,L⟩:=by rw[hT,hR,hL];rfl
  rw[eK] at h
  have eT:(k.r:Int)+1=(R:Int):=by omega
  have eT2:(k.t:Int)=(T:Int):=by omega
  have eL:(k.left:Int)-1=(L:Int):=by omega
  have bT:T≤2000:=by omega
  have bR:R≤2000:=by omega
  have bL:L≤1000:=by omega
  simp -implicitDefEqProofs (maxSteps:=9^9) (disch:=omega) only[go_sem,simprocAttr,Rng_eta,okStl,hfl,hkb,hb1,hb2,stlv,Jb.file,eT,eT2,eL,hf1,hf]
  clear hkt hkr hkl hl eT eT2 eL hfl hb1 hb2 hup hdn hT hR hL eK hj
  refine ARun.forJ (Tryz.envOK (S:=S) 74 Tryz.ord207 fs205 fs205_ok) T (fun i τ=>τ=σ++[.cells [.int .i64 j.pitch.lo,.int .i64 j.pitch.hi,.int .i64 j.tip.lo,.int .i64 j.tip.hi,.int .i64 j.root.lo,.int .i64 j.root.hi,.int .i64 j.up.lo,.int .i64 j.up.hi,.int .i64 j.down.lo,.int .i64 j.down.hi,.int .i64 j.wt.lo,.int .i64 j.wt.hi,.int .i64 j.wr.lo,.int .i64 j.wr.hi,.int .i64 j.least,.list .no 2 (j.shifts.map Rng.av),.int .i64 j.within,.int .i64 j.meter,.int .i64 w.lo,.int .i64 w.hi,f],.cells [.int .i64 (lessR k.p j.down).lo,.int .i64 (lessR k.p j.down).hi,.int .i64 (T:Int),.int .i64 (R:Int),.int .i64 (L:Int)],.cells [.int .i64 0,.int .i64 0,.int .i64 0,.int .i64 0,.int .i64 0],.cells [.int .i64 k.p.lo,.int .i64 k.p.hi,.int .i64 (wearL j.tip j.wt i).lo,.int .i64 (wearL j.tip j.wt i).hi,.int .i64 j.root.lo,.int .i64 j.root.hi,.int .i64 j.up.lo,.int .i64 j.up.hi,.int .i64 j.down.lo,.int .i64 j.down.hi,.int .i64 j.wt.lo,.int .i64 j.wt.hi,.int .i64 j.wr.lo,.int .i64 j.wr.hi,.int .i64 j.least],.cells [.int .i64 (lessR k.p j.down).lo,.int .i64 (lessR k.p j.down).hi,.int .i64 j.tip.lo,.int .i64 j.tip.hi,.int .i64 (lessR j.root j.wr).lo,.int .i64 (lessR j.root j.wr).hi,.int .i64 j.up.lo,.int .i64 j.up.hi,.int .i64 j.down.lo,.int .i64 j.down.hi,.int .i64 j.wt.lo,.int .i64 j.wt.hi,.int .i64 j.wr.lo,.int .i64 j.wr.hi,.int .i64 j.least]]) (fun i=>[(44,.int .i64 i)]) (by kernel_rfl) (by simp[upd,ins,subF,lookA]) rfl ?_ ?_
  ·rintro i τ hi rfl ih
   have e1:bigR (wearL j.tip j.wt i):=by have:=wb1 i;exact⟨by omega,by omega⟩
   have e2:wearL j.tip j.wt (i+1)=lessR (wearL j.tip j.wt i) j.wt:=rfl
   rw[e2] at ih
   generalize wearL j.tip j.wt i=y at ih e1⊢
   clear wb1 wb2 h
   simp -implicitDefEqProofs (maxSteps:=9^9) (disch:=omega) only[go_sem,simprocAttr,Rng_eta,Rng.av,e1,hwt]
   exact(ih _ rfl).castS rfl (by simp[upd,ins,subF,lookA])
  ·rintro τ rfl
   have eO:okS j T R=decide (spoilS (wearL j.tip j.wt T) (wearL j.root j.wr R) j.least=2):=by unfold okS;rw[Bool.eq_iff_iff];simp
   simp only[Kn.av,Kn.cells,eO] at h
   clear eO
   generalize wearL j.tip j.wt T=y1 at h⊢
   simp -implicitDefEqProofs (maxSteps:=9^9) (disch:=omega) only[go_sem,simprocAttr]
   refine ARun.forJ (Tryz.envOK (S:=S) 74 Tryz.ord207 fs205 fs205_ok) R (fun i τ=>τ=σ++[.cells [.int .i64 j.pitch.lo,.int .i64 j.pitch.hi,.int .i64 j.tip.lo,.int .i64 j.tip.hi,.int .i64 j.root.lo,.int .i64 j.root.hi,.int .i64 j.up.lo,.int .i64 j.up.hi,.int .i64 j.down.lo,.int .i64 j.down.hi,.int .i64 j.wt.lo,.int .i64 j.wt.hi,.int .i64 j.wr.lo,.int .i64 j.wr.hi,.int .i64 j.least,.list .no 2 (j.shifts.map Rng.av),.int .i64 j.within,.int .i64 j.meter,.int .i64 w.lo,.int .i64 w.hi,f],.cells [.int .i64 (lessR k.p j.down).lo,.int .i64 (lessR k.p j.down).hi,.int .i64 (T:Int),.int .i64 (R:Int),.int .i64 (L:Int)],.cells [.int .i64 0,.int .i64 0,.int .i64 0,.int .i64 0,.int .i64 0],.cells [.int .i64 k.p.lo,.int .i64 k.p.hi,.int .i64 y1.lo,.int .i64 y1.hi,.int .i64 (wearL j.root j.wr i).lo,.int .i64 (wearL j.root j.wr i).hi,.int .i64 j.up.lo,.int .i64 j.up.hi,.int .i64 j.down.lo,.int .i64 j.down.hi,.int .i64 j.wt.lo,.int .i64 j.wt.hi,.int .i64 j.wr.lo,.int .i64 j.wr.hi,.int .i64 j.least],.cells [.int .i64 (lessR k.p j.down).lo,.int .i64 (lessR k.p j.down).hi,.int .i64 j.tip.lo,.int .i64 j.tip.hi,.int .i64 (lessR j.root j.wr).lo,.int .i64 (lessR j.root j.wr).hi,.int .i64 j.up.lo,.int .i64 j.up.hi,.int .i64 j.down.lo,.int .i64 j.down.hi,.int .i64 j.wt.lo,.int .i64 j.wt.hi,.int .i64 j.wr.lo,.int .i64 j.wr.hi,.int .i64 j.least]]) (fun i=>[(58,.int .i64 i)]) (by kernel_rfl) (by simp[upd,ins,subF,lookA]) rfl ?_ ?_
   ·rintro i τ hi rfl ih
    have e1:bigR (wearL j.root j.wr i):=by have:=wb2 i;exact⟨by omega,by omega⟩
    have e2:wearL j.root j.wr (i+1)=lessR (wearL j.root j.wr i) j.wr:=rfl
    rw[e2] at ih
    generalize wearL j.root j.wr i=y at ih e1⊢
    clear wb1 wb2 h
    simp -implicitDefEqProofs (maxSteps:=9^9) (disch:=omega) only[go_sem,simprocAttr,Rng_eta,Rng.av,e1,hwr]
    exact(ih _ rfl).castS rfl (by simp[upd,ins,subF,lookA])
   ·rintro τ rfl
    generalize wearL j.root j.wr R=y2 at h⊢
    clear wb1 wb2
    simp -implicitDefEqProofs (maxSteps:=9^9) (disch:=omega) only[go_sem,simprocAttr,Rng_eta]
    exact⟨fun e=>by simp only[decide_eq_true e] at h;exact h _,fun e=>by simp only[decide_eq_false e] at h;exact h _⟩
end Go.Proofs
namespace Go.Mu
open Go
/-! Maps whose keys are any data that can be told apart. -/
section
variable {κ:Type}[DecidableEq κ]{α:Type}
def gIdx(k:κ):List (κ×α)→Nat→Option (Nat×α)
 | [],_=>none
 | (k',v)::m,i=>if k=k' then some (i,v) else gIdx k m (i+1)
def gget(m:List (κ×α))(k:κ):Option α:=(gIdx k m 0).map (·.2)
def gset(m:List (κ×α))(k:κ)(v:α):List (κ×α):=match gIdx k m 0 with
 | some (i,_)=>m.set i (k,v)
 | none=>m++[(k,v)]
theorem gIdx_get{k:κ}:∀{m:List (κ×α)} {i j:Nat} {v:α},gIdx k m i=some (j,v)→i≤j∧m[j-i]? = some (k,v)
 | [],i,j,v,h=>by simp[gIdx] at h
 | (k',w)::m,i,j,v,h=>by
  simp only[gIdx] at h
  split at h
  ·rename_i e;subst e
   simp only[Option.some.injEq,Prod.mk.injEq] at h
   obtain⟨rfl,rfl⟩:=h
   simp
  ·obtain⟨h1,h2⟩:=gIdx_get h
   refine⟨by omega,?_⟩
   rw[show j-i=(j- (i+1))+1 by omega]
   simpa using h2
theorem gIdx_none{k:κ}:∀{m:List (κ×α)} {i:Nat},gIdx k m i=none↔∀p∈m,p.1≠k
 | [],i=>by simp[gIdx]
 | (k',w)::m,i=>by
  have ih:=gIdx_none (k:=k) (m:=m) (i:=i+1)
  simp only[gIdx,List.forall_mem_cons]
  split
  ·rename_i e;simp[e]
  ·rename_i e
   rw[ih]
   exact⟨fun h=>⟨fun e2=>e e2.symm,h⟩,fun h=>h.2⟩
theorem gget_mem{m:List (κ×α)}{k:κ}{v:α}(h:gget m k=some v):(k,v)∈m:=by
 unfold gget at h
 cases hi:gIdx k m 0 with
 | none=>rw[hi] at h;simp at h
 | some q=>
  obtain⟨j,w⟩:=q
  rw[hi] at h;simp at h;subst h
  exact List.mem_of_getElem? (gIdx_get hi).2
theorem gset_mem{m:List (κ×α)}{k:κ}{v:α}{p:κ×α}(h:p∈gset m k v):p=(k,v)∨p∈m:=by
 unfold gset at h
 split at h
 ·rcases List.mem_or_eq_of_mem_set h with h | h
  ·exact .inr h
  ·exact .inl h
 ·rcases List.mem_append.1 h with h | h
  ·exact .inr h
  ·simp at h;exact .inl h
variable {f:κ→AV}{g:α→AV}
theorem findA_g(hf:∀a b,keyEq (f a) (f b)=some (decide (a=b)))(k:κ):∀(m:List (κ×α)) (i:Nat),findA (f k) (m.map fun p=>(f p.1,g p.2)) i=some ((gIdx k m i).map fun q=>(q.1,g q.2))
 | [],i=>rfl
 | (k',v)::m,i=>by
  have ih:=findA_g hf k m (i+1)
  simp only[List.map_cons,findA,hf,gIdx]
  by_cases h:k=k'
  ·subst h;simp
  ·rw[decide_eq_false h,if_neg h];exact ih
theorem updR_g(hf:∀a b,keyEq (f a) (f b)=some (decide (a=b))){m:List (κ×α)}{k:κ}{v:α}{r:Nat}{σ:List AObj} :
  updR r (m.map fun p=>(f p.1,g p.2)) (f k) (g v) σ (findA (f k) (m.map fun p=>(f p.1,g p.2)) 0)=some (.tup [],hset σ r (.map ((gset m k v).map fun p=>(f p.1,g p.2)))):=by
 rw[findA_g hf]
 unfold gset
 cases gIdx k m 0 with
 | none=>simp[updR]
 | some q=>simp[updR,List.map_set]
theorem lookR_g(hf:∀a b,keyEq (f a) (f b)=some (decide (a=b))){m:List (κ×α)}{k:κ}{ok:Bool}{z:AV}{σ:List AObj} :
  lookR ok z σ (findA (f k) (m.map fun p=>(f p.1,g p.2)) 0)=some (match gget m k with
   | some v=>if ok then .tup [g v,.bool true] else g v
   | none=>if ok then .tup [z,.bool false] else z,σ):=by
 rw[findA_g hf]
 unfold gget
 cases gIdx k m 0 with
 | none=>rfl
 | some q=>rfl
end
end Go.Mu
namespace Go.Proofs
open Go Go.Mu
variable {S:MC Tryz.prog}
/-! What can be known when a meter has been read: an iterator. -/
theorem map_part'{α:Type}(f:Nat→α){k n:Nat}(h:k<n):∃Y,(List.range n).map f=(List.range k).map f++f k::Y:=by
 refine⟨((List.range n).map f).drop (k+1),?_⟩
 have h1:k<((List.range n).map f).length:=by simpa using h
 have h2:((List.range n).map f)[k]=f k:=by simp
 rw[← h2,← List.drop_eq_getElem_cons h1]
 have h3:(List.range k).map f=((List.range n).map f).take k:=by rw[← List.map_take,List.take_range,Nat.min_eq_left (by omega)]
 rw[h3,List.take_append_drop]
def rdF(p:Rng)(m:Int)(i:Nat):Rng:=meet2 p ⟨p.lo-m+(i:Int)-m,p.lo-m+(i:Int)+m⟩
theorem readings1_c(p:Rng)(m:Int)(hp:bigR p)(hm:0≤m∧m≤100){r rp rm:Nat}{L:List AV}(T:Taker S r L){τ:List AObj}(h1:hget τ rp=some (.cells [.int .i64 p.lo,.int .i64 p.hi]))(h2:hget τ rm=some (.cells [.int .i64 m]))(hM:¬T.M rp∧¬T.M rm)(hC:T.C [] τ)(hL:L=(rdL p m).map Rng.av) :
  ACalls S 225 [.yield r,.ptr rp 0,.ptr rm 0] τ fun _ τ'=>Same T.M τ τ'∧(T.C L τ'∨∃D v R,L=D++v::R∧T.St (D++[v]) τ'):=by
 subst hL
 obtain⟨b1,b2⟩:=hp
 refine AcE (Tryz.envOK (S:=S) 30 (fun _=>([],[])) fs205 fs205_ok) Tryz.kp225 Tryz.func225 rfl ?_
 simp -implicitDefEqProofs (maxSteps:=9^9) (disch:=omega) only[go_sem,simprocAttr,h1,h2]
 obtain⟨N,hN⟩:∃N,(p.hi+m- (p.lo-m)+1).toNat=N:=⟨_,rfl⟩
 have hLN:rdL p m=(List.range N).map (rdF p m):=by rw[← hN];rfl
 refine ARun.forJ (Tryz.envOK (S:=S) 30 (fun _=>([],[])) fs205 fs205_ok) N (fun i σ'=>Same T.M τ σ'∧T.C (((List.range i).map (rdF p m)).map Rng.av) σ') (fun i=>[(4,.int .i64 (p.lo-m+i))]) (by kernel_rfl) (by simp[upd,ins,subF,lookA]) ⟨Same.refl,by simpa using hC⟩ ?_ ?_
 ·rintro i σ' hi ⟨h5,h6⟩ ih
  have p1:=h5.get h1 hM.1
  have p2:=h5.get h2 hM.2
  obtain⟨R,hR⟩:∃R,(rdL p m).map Rng.av=((List.range i).map (rdF p m)).map Rng.av++(rdF p m i).av::R:=by
   obtain⟨Y,hY⟩:=map_part' (rdF p m) hi
   exact⟨Y.map Rng.av,by rw[hLN,hY];simp⟩
  have hml:meetL ⟨p.lo,p.hi⟩ [⟨p.lo-m+(i:Int)-m,p.lo-m+(i:Int)+m⟩]=rdF p m i:=rfl
  have hav:(rdF p m i).av= .agg [.int .i64 (rdF p m i).lo,.int .i64 (rdF p m i).hi]:=rfl
  clear hLN
  simp -implicitDefEqProofs (maxSteps:=9^9) (disch:=omega) only[go_sem,simprocAttr,p1,p2,hml,hav]
  rw[← hav]
  refine(T.take hR h6).mono fun v τ3 hv=>?_
  rcases hv with⟨q1,⟨rfl,q2⟩ | ⟨rfl,q2⟩⟩
  ·simp -implicitDefEqProofs (maxSteps:=9^9) (disch:=omega) only[go_sem,simprocAttr]
   refine(ih τ3 ⟨h5.trans q1,by simpa[List.range_succ] using q2⟩).castS rfl (by simp[upd,ins,subF,lookA,Int.add_assoc])
  ·simp -implicitDefEqProofs (maxSteps:=9^9) (disch:=omega) only[go_sem,simprocAttr]
   exact⟨h5.trans q1,.inr ⟨_,_,R,hR,q2⟩⟩
 ·rintro σ' ⟨h5,h6⟩
  have p1:=h5.get h1 hM.1
  have p2:=h5.get h2 hM.2
  rw[← hLN] at h6
  simp -implicitDefEqProofs (maxSteps:=9^9) (disch:=omega) only[go_sem,simprocAttr,p1,p2]
  exact⟨h5,.inl h6⟩
theorem readings_c(p:Rng)(m:Int)(hp:bigR p)(hm:0≤m∧m≤100)(σ:List AObj)(Q:AV→List AObj→Prop)
  (h:IterF S 225 [] [.ptr σ.length 0,.ptr (σ.length+1) 0] (fun k=>k=σ.length∨k=σ.length+1) (σ++[.cells [.int .i64 p.lo,.int .i64 p.hi],.cells [.int .i64 m]]) ((rdL p m).map Rng.av)→Q (.fn (.func 225) [] [.ptr σ.length 0,.ptr (σ.length+1) 0]) (σ++[.cells [.int .i64 p.lo,.int .i64 p.hi],.cells [.int .i64 m]])) :
  ACalls S 206 [p.av,.int .i64 m] σ Q:=by
 refine AcE (Tryz.envOK (S:=S) 6 (fun _=>([],[])) fs205 fs205_ok) Tryz.kp206 Tryz.func206 rfl ?_
 simp only[Rng.av]
 simp -implicitDefEqProofs (maxSteps:=9^9) (disch:=omega) only[go_sem,simprocAttr]
 refine h fun r T σ' hk hC=>?_
 have:=readings1_c (S:=S) p m hp hm T (rp:=σ.length) (rm:=σ.length+1) (τ:=σ') (by rw[(hk _ (.inl rfl)).1];exact hget_at0) (by rw[(hk _ (.inr rfl)).1];exact hget_at) ⟨(hk _ (.inl rfl)).2,(hk _ (.inr rfl)).2⟩ hC rfl
 simpa using this
/-! What the closure finds in its variables. -/
theorem Kn_key(a b:Kn):keyEq a.av b.av=some (decide (a=b)):=by
 obtain⟨⟨a1,a2⟩,a3,a4,a5⟩:=a
 obtain⟨⟨b1,b2⟩,b3,b4,b5⟩:=b
 simp only[Kn.av,Kn.cells,keyEq,intsA,Option.map_some,List.length_cons,List.length_nil,if_true,Option.some.injEq]
 rw[Bool.eq_iff_iff]
 simp[Int.ofNat_inj]
 omega
def mapK(m:List (Kn×Bool)):List (AV×AV):=m.map fun p=>(p.1.av,AV.bool p.2)
theorem lookK{m:List (Kn×Bool)}{k:Kn}{σ:List AObj}:lookR true (.bool false) σ (findA (.agg [.int .i64 k.p.lo,.int .i64 k.p.hi,.int .i64 (k.t:Int),.int .i64 (k.r:Int),.int .i64 (k.left:Int)]) (mapK m) 0)=some (.tup [.bool ((gget m k).getD false),.bool (gget m k).isSome],σ):=by
 have:=lookR_g (f:=Kn.av) (g:=AV.bool) Kn_key (m:=m) (k:=k) (ok:=true) (z:= .bool false) (σ:=σ)
 change lookR true (.bool false) σ (findA k.av (mapK m) 0)=_
 unfold mapK
 rw[this]
 cases gget m k<;> rfl
theorem updK{m:List (Kn×Bool)}{k:Kn}{v:Bool}{r:Nat}{σ:List AObj}:updR r (mapK m) (.agg [.int .i64 k.p.lo,.int .i64 k.p.hi,.int .i64 (k.t:Int),.int .i64 (k.r:Int),.int .i64 (k.left:Int)]) (.bool v) σ (findA (.agg [.int .i64 k.p.lo,.int .i64 k.p.hi,.int .i64 (k.t:Int),.int .i64 (k.r:Int),.int .i64 (k.left:Int)]) (mapK m) 0)=some (.tup [],hset σ r (.map (mapK (gset m k v)))):=
 updR_g (f:=Kn.av) (g:=AV.bool) Kn_key
attribute [go_sem] lookK updK
def stK(j:Jb)(k:Kn):Bool:=stopsL j k.left k.p k.t k.r
def MemoK(j:Jb)(m:List (Kn×Bool)):Prop:=∀p∈m,p.2=stK j p.1
structure GH(j:Jb)(a1 a2 mr:Nat)(τ:List AObj):Prop where
 h1:hget τ a1=some (.cells (j.cells++[.int .i64 (winS j).lo,.int .i64 (winS j).hi,.fn (.func 205) [] [.ptr a1 0,.ptr a2 0]]))
 h2:hget τ a2=some (.cells [.map mr])
 hm:∃m,hget τ mr=some (.map (mapK m))∧MemoK j m
def Sm(mr:Nat)(τ τ':List AObj):Prop:=τ.length≤τ'.length∧∀k,k<τ.length→k≠mr→hget τ' k=hget τ k
theorem Sm.refl{mr:Nat}{τ:List AObj}:Sm mr τ τ:=⟨Nat.le_refl _,fun _ _ _=>rfl⟩
theorem Sm.trans{mr:Nat}{a b c:List AObj}(h:Sm mr a b)(g:Sm mr b c):Sm mr a c:=⟨Nat.le_trans h.1 g.1,fun k h1 h2=>(g.2 k (by have:=h.1;omega) h2).trans (h.2 k h1 h2)⟩
theorem Sm.app{mr:Nat}{a b l:List AObj}(h:Sm mr a b):Sm mr a (b++l):=⟨by have:=h.1;simp;omega,fun k h1 h2=>by rw[hget_app (by have:=h.1;omega)];exact h.2 k h1 h2⟩
theorem Sm.set{mr r:Nat}{a b:List AObj}{o:AObj}(h:Sm mr a b)(hr:a.length≤r∨r=mr):Sm mr a (hset b r o):=⟨by rw[length_hset];exact h.1,fun k h1 h2=>by
 rw[hget_ne (by omega)];exact h.2 k h1 h2⟩
theorem GH.ne{j:Jb}{a1 a2 mr:Nat}{τ:List AObj}(h:GH j a1 a2 mr τ):a1≠mr∧a2≠mr∧mr<τ.length∧a1<τ.length∧a2<τ.length:=by
 obtain⟨m,hm,_⟩:=h.hm
 refine⟨?_,?_,hget_lt hm,hget_lt h.h1,hget_lt h.h2⟩
 ·rintro rfl;rw[h.h1] at hm;cases hm
 ·rintro rfl;rw[h.h2] at hm;cases hm
theorem GH.sm{j:Jb}{a1 a2 mr:Nat}{τ τ':List AObj}(h:GH j a1 a2 mr τ)(hs:Sm mr τ τ')(hm:∃m,hget τ' mr=some (.map (mapK m))∧MemoK j m):GH j a1 a2 mr τ':=by
 obtain⟨n1,n2,_,l1,l2⟩:=h.ne
 exact⟨(hs.2 _ l1 n1).trans h.h1,(hs.2 _ l2 n2).trans h.h2,hm⟩
theorem GH.app{j:Jb}{a1 a2 mr:Nat}{τ l:List AObj}(h:GH j a1 a2 mr τ):GH j a1 a2 mr (τ++l):=by
 obtain⟨m,hm,ho⟩:=h.hm
 exact h.sm Sm.refl.app ⟨m,by rw[hget_app (hget_lt hm)];exact hm,ho⟩
theorem GH.set{j:Jb}{a1 a2 mr r:Nat}{τ:List AObj}{o:AObj}(h:GH j a1 a2 mr τ)(h1:r≠a1)(h2:r≠a2)(h5:r≠mr):GH j a1 a2 mr (hset τ r o):=by
 obtain⟨m,hm,ho⟩:=h.hm
 exact⟨by rw[hget_ne h1];exact h.h1,by rw[hget_ne h2];exact h.h2,m,by rw[hget_ne h5];exact hm,ho⟩
structure OkL(k:Kn):Prop where
 left:k.left≤90
 lo:1000*(k.left:Int)-100000≤k.p.lo∧k.p.lo≤100000-1000*(k.left:Int)
 hi:1000*(k.left:Int)-100000≤k.p.hi∧k.p.hi≤100000-1000*(k.left:Int)
 t:k.t+k.left≤100
 r:k.r+k.left≤100
theorem OkL.k{k:Kn}(h:OkL k):OkK k:=by
 obtain⟨h1,h2,h3,h4,h5⟩:=h
 exact⟨⟨by omega,by omega⟩,by omega,by omega,by omega⟩
theorem OkL.read{k:Kn}(h:OkL k){m:Int}(hm:0≤m){x:Rng}(hx:x∈rdL k.p m):OkL {k with p:=x}:=by
 obtain⟨h1,h2,h3,h4,h5⟩:=h
 obtain⟨n,g1,g2,rfl⟩:=mem_rdL.1 hx
 refine⟨h1,?_,?_,h4,h5⟩<;> (simp only[meet2];omega)
theorem OkL.mv{j:Jb}(hj:OkF j){k:Kn}(h:OkL k)(hl:1≤k.left)(s:Int):OkL (mvK j k s):=by
 obtain⟨h1,h2,h3,h4,h5⟩:=h
 obtain⟨⟨u1,u2,u3⟩,⟨d1,d2,d3⟩,_,_,_⟩:=hj
 unfold mvK
 split
 ·refine⟨by simp only;omega,?_,?_,by simp only;omega,by simp only;omega⟩<;> (simp only[plusR];omega)
 ·refine⟨by simp only;omega,?_,?_,by simp only;omega,by simp only;omega⟩<;> (simp only[lessR];omega)
def fnS(a1 a2:Nat):AV:= .fn (.func 205) [] [.ptr a1 0,.ptr a2 0]
def StopsC(j:Jb)(a1 a2 mr n:Nat):Prop:=∀k,OkL k→k.left=n→∀σ,GH j a1 a2 mr σ→∀Q:AV→List AObj→Prop,(∀σ',Sm mr σ σ'→GH j a1 a2 mr σ'→Q (.bool (stK j k)) σ')→ACalls S 205 [k.av,.ptr a1 0,.ptr a2 0] σ Q
def rdsK(j:Jb)(k:Kn):Bool:=(rdL k.p j.meter).all fun x=>stopsL j k.left x k.t k.r
theorem GH.congr{j:Jb}{a1 a2 mr:Nat}{τ τ':List AObj}(h:GH j a1 a2 mr τ)(e1:hget τ' a1=hget τ a1)(e2:hget τ' a2=hget τ a2)(e3:hget τ' mr=hget τ mr):GH j a1 a2 mr τ':=
 ⟨e1.trans h.h1,e2.trans h.h2,by obtain⟨m,hm,ho⟩:=h.hm;exact⟨m,e3.trans hm,ho⟩⟩
theorem rng_map_inj:∀{a b:List Rng},a.map Rng.av=b.map Rng.av→a=b
 | [],[],_=>rfl
 | [],_::_,h=>by simp at h
 | _::_,[],h=>by simp at h
 | x::a,y::b,h=>by
  simp only[List.map_cons,List.cons.injEq] at h
  have h1:some x=some y:=by rw[← decRng_av x,h.1,decRng_av]
  rw[rng_map_inj h.2,Option.some.inj h1]
theorem reads_c{j:Jb}(hj:OkJ j){a1 a2 mr n:Nat}(hS:StopsC (S:=S) j a1 a2 mr n)(k:Kn)(hk:OkL k)(hkn:k.left=n)(σ:List AObj)(hG:GH j a1 a2 mr σ)(Q:AV→List AObj→Prop)(hQ:∀σ',Sm mr σ σ'→GH j a1 a2 mr σ'→Q (.bool (rdsK j k)) σ') :
  ACalls S 166 [gamev j (winS j) (fnS a1 a2),k.av] σ Q:=by
 have hm:=hj.meter
 have hkb:=hk.k.p
 refine AcE (Tryz.envOK (S:=S) 27 (fun _=>([],[])) fs205 fs205_ok) Tryz.kp166 Tryz.func166 rfl ?_
 simp only[gamev,Jb.cells,Kn.av,Kn.cells,fnS,List.cons_append,List.nil_append]
 simp -implicitDefEqProofs (maxSteps:=9^9) (disch:=omega) only[go_sem,simprocAttr,Rng_eta]
 refine readings_c k.p j.meter hkb (by omega) _ _ fun hI=>?_
 simp only[List.append_assoc,List.cons_append,List.nil_append,List.length_append,List.length_cons,List.length_nil,Nat.zero_add,Nat.reduceAdd,Nat.add_assoc] at hI⊢
 simp -implicitDefEqProofs (maxSteps:=9^9) (disch:=omega) only[go_sem,simprocAttr]
 obtain⟨n1,n2,n3,n4,n5⟩:=hG.ne
 have hkc:∀x:Rng,Kn.av {k with p:=x}= .agg [.int .i64 x.lo,.int .i64 x.hi,.int .i64 (k.t:Int),.int .i64 (k.r:Int),.int .i64 (k.left:Int)]:=fun _=>rfl
 obtain⟨G,hGe⟩:∃G,G=[AV.int .i64 j.pitch.lo,.int .i64 j.pitch.hi,.int .i64 j.tip.lo,.int .i64 j.tip.hi,.int .i64 j.root.lo,.int .i64 j.root.hi,.int .i64 j.up.lo,.int .i64 j.up.hi,.int .i64 j.down.lo,.int .i64 j.down.hi,.int .i64 j.wt.lo,.int .i64 j.wt.hi,.int .i64 j.wr.lo,.int .i64 j.wr.hi,.int .i64 j.least,.list .no 2 (j.shifts.map Rng.av),.int .i64 j.within,.int .i64 j.meter,.int .i64 (winS j).lo,.int .i64 (winS j).hi,.fn (.func 205) [] [.ptr a1 0,.ptr a2 0]]:=⟨_,rfl⟩
 refine ARun.rangeIterF (g:=225) (p:=[]) (L:=(rdL k.p j.meter).map Rng.av) (by simp[aeval,Fr.get,lookA,Tryz.kp166]) hI (fun q hq=>⟨rfl,by simp;omega⟩) ⟨13,rfl,by simp[Tryz.EN]⟩
  (fun q=>q=a1∨q=a2∨q=mr∨q=σ.length∨q=σ.length+1∨q=σ.length+2) (fun q hq=>⟨by omega,by simp;omega⟩)
  (fun D τ=>∃Ds:List Rng,D=Ds.map Rng.av∧(Ds.all fun x=>stopsL j k.left x k.t k.r)=true∧GH j a1 a2 mr τ∧hget τ σ.length=some (.cells G)∧hget τ (σ.length+1)=some (.cells [.int .i64 k.p.lo,.int .i64 k.p.hi,.int .i64 (k.t:Int),.int .i64 (k.r:Int),.int .i64 (k.left:Int)])∧hget τ (σ.length+2)=some (.cells [.bool true]))
  (fun jc τ=>jc= .exit 0∧rdsK j k=false∧GH j a1 a2 mr τ∧hget τ (σ.length+2)=some (.cells [.bool false]))
  ⟨[],rfl,rfl,hG.app,by rw[hGe];simp[hget_at0],by simp[hget_at],by simp[hget_at]⟩
  (fun{D τ τ'} hc hk=>by
   obtain⟨Ds,e,ha,g,c1,c2,c3⟩:=hc
   exact⟨Ds,e,ha,g.congr (hk _ (.inl rfl)) (hk _ (.inr (.inl rfl))) (hk _ (.inr (.inr (.inl rfl)))),(hk _ (.inr (.inr (.inr (.inl rfl))))).trans c1,(hk _ (.inr (.inr (.inr (.inr (.inl rfl)))))).trans c2,(hk _ (.inr (.inr (.inr (.inr (.inr rfl)))))).trans c3⟩)
  (fun{jc τ τ'} hc hk=>⟨hc.1,hc.2.1,hc.2.2.1.congr (hk _ (.inl rfl)) (hk _ (.inr (.inl rfl))) (hk _ (.inr (.inr (.inl rfl)))),(hk _ (.inr (.inr (.inr (.inr (.inr rfl)))))).trans hc.2.2.2⟩) ?_ ?_ ?_
 ·rintro D v R fn τ hD ⟨Ds,rfl,hall,g,c1,c2,c3⟩ hlt hrec
  simp only[List.length_append,List.length_cons,List.length_nil,Nat.zero_add,Nat.reduceAdd] at hrec hlt⊢
  obtain⟨x,hx,rfl⟩:∃x∈rdL k.p j.meter,x.av=v:=List.mem_map.1 (by rw[hD];simp)
  refine ev_sound (Tryz.envOK (S:=S) 27 (fun _=>([],[])) fs205 fs205_ok) (n:=1000) (by kernel_rfl) ?_
  have hxa:x.av= .agg [.int .i64 x.lo,.int .i64 x.hi]:=rfl
  simp -implicitDefEqProofs (maxSteps:=9^9) (disch:=omega) only[go_sem,simprocAttr,frIn,hxa]
  refine ARun.beginRound' (by rw[hget_app hlt];exact hrec) fun τ2 hl2 hs2 hr2=>?_
  rw[List.length_append,List.length_singleton] at hl2
  have e0:∀q,q<τ.length→q≠σ.length+5→hget τ2 q=hget τ q:=fun q hq hm=>by rw[hs2 _ hm,hget_app hq]
  have k1:=(e0 _ (by omega) (by omega)).trans c1
  have k2:=(e0 _ (by omega) (by omega)).trans c2
  have k3:=(e0 _ (by omega) (by omega)).trans c3
  have k4:hget τ2 τ.length=some (.cells [.int .i64 x.lo,.int .i64 x.hi]):=by rw[hs2 _ (by omega)];exact hget_at0
  have g2:GH j a1 a2 mr τ2:=g.congr (e0 _ (by omega) (by omega)) (e0 _ (by omega) (by omega)) (e0 _ (by omega) (by omega))
  refine ev_sound (Tryz.envOK (S:=S) 27 (fun _=>([],[])) fs205 fs205_ok) (n:=1000) (by kernel_rfl) ?_
  rw[hGe] at k1
  simp -implicitDefEqProofs (maxSteps:=9^9) (disch:=omega) only[go_sem,simprocAttr,k1,k2,k4]
  rw[← hkc x]
  have hsx:stK j {k with p:=x}=stopsL j k.left x k.t k.r:=rfl
  refine hS {k with p:=x} (hk.read hm.1 hx) hkn τ2 g2 _ fun τ3 s3 g3=>?_
  rw[hsx]
  have o3:∀{q o},hget τ2 q=some o→q≠mr→hget τ3 q=some o:=fun h hm=>by rw[s3.2 _ (hget_lt h) hm];exact h
  have r3:=o3 hr2 (by omega)
  have l3:=s3.1
  cases hb:stopsL j k.left x k.t k.r
  ·have q3:=o3 k3 (by omega)
   simp -implicitDefEqProofs (maxSteps:=9^9) (disch:=omega) only[go_sem,simprocAttr,q3]
   have k1':hget τ2 σ.length=some (.cells G):=by rw[hGe];exact k1
   refine⟨⟨by rw[length_hset];omega,fun q hq hm=>by rw[hget_ne (by omega),s3.2 q (by omega) (by omega),hs2 q (by omega),hget_app hq]⟩,⟨none,by rw[hget_ne (by omega)];exact r3⟩,.exit 0,rfl,(fun t h=>by cases h),rfl,?_,g3.set (by omega) (by omega) (by omega),hget_set q3 _⟩
   exact List.all_eq_false.2 ⟨x,hx,by rw[hb];simp⟩
  ·have hxs:Ds.map Rng.av++[x.av]=(Ds++[x]).map Rng.av:=by simp
   rw[hxa] at hxs
   simp -implicitDefEqProofs (maxSteps:=9^9) (disch:=omega) only[go_sem,simprocAttr]
   have k1':hget τ2 σ.length=some (.cells G):=by rw[hGe];exact k1
   exact⟨⟨by omega,fun q hq hm=>by rw[s3.2 q (by omega) (by omega),hs2 q (by omega),hget_app hq]⟩,⟨none,r3⟩,.inl ⟨Ds++[x],hxs,by rw[List.all_append,hall];simp[hb],g3,o3 k1' (by omega),o3 k2 (by omega),o3 k3 (by omega)⟩⟩
 ·rintro τ hlt hold ⟨Ds,e,hall,g,c1,c2,c3⟩
  have he:Ds=rdL k.p j.meter:=(rng_map_inj e).symm
  subst he
  refine ev_sound (Tryz.envOK (S:=S) 27 (fun _=>([],[])) fs205 fs205_ok) (n:=1000) (by kernel_rfl) ?_
  simp -implicitDefEqProofs (maxSteps:=9^9) (disch:=omega) only[go_sem,simprocAttr,c3]
  have hr:rdsK j k=true:=hall
  rw[hr] at hQ
  simp only[List.length_append,List.length_cons,List.length_nil,Nat.zero_add,Nat.reduceAdd] at hlt hold
  refine hQ τ ⟨by omega,fun q hq hne=>?_⟩ g
  by_cases h1:q=a1
  ·subst h1;exact g.h1.trans hG.h1.symm
  ·by_cases h2:q=a2
   ·subst h2;exact g.h2.trans hG.h2.symm
   ·rw[hold q (by omega) (by omega)];exact hget_app hq
 ·rintro τ jc hlt hold ⟨rfl,hf,g,c3⟩
  refine ev_sound (Tryz.envOK (S:=S) 27 (fun _=>([],[])) fs205 fs205_ok) (n:=1000) (by kernel_rfl) ?_
  simp -implicitDefEqProofs (maxSteps:=9^9) (disch:=omega) only[go_sem,simprocAttr,c3]
  have hr:rdsK j k=false:=hf
  rw[hr] at hQ
  simp only[List.length_append,List.length_cons,List.length_nil,Nat.zero_add,Nat.reduceAdd] at hlt hold
  refine hQ τ ⟨by omega,fun q hq hne=>?_⟩ g
  by_cases h1:q=a1
  ·subst h1;exact g.h1.trans hG.h1.symm
  ·by_cases h2:q=a2
   ·subst h2;exact g.h2.trans hG.h2.symm
   ·rw[hold q (by omega) (by omega)];exact hget_app hq
def in_s:=spec3 tI tI tI fun n lo hi=>some (.bool (decide (lo≤n∧n≤hi)))
theorem in_ok:∀xs v,in_s xs=some v→PureV S 162 xs v:=by
 refine spec3_ok fun n lo hi v h=>?_
 simp only[Option.some.injEq] at h;subst h
 refine PvE (Tryz.envOK (S:=S) 15 (fun _=>([],[])) fs0 fs0_ok) (.bool) Tryz.kp162 Tryz.func162 rfl ?_
 intro σ
 simp only[tI]
 simp -implicitDefEqProofs (maxSteps:=9^9) (disch:=omega) only[go_sem,simprocAttr]
 refine⟨fun h1=>⟨fun h2=>?_,fun h2=>?_⟩,fun h1=>?_⟩<;> simp[h1, *]
def fs1(f:FuncId)(xs:List AV):Option AV:=if f=162 then in_s xs else fs0 f xs
theorem fs1_ok{S:MC Tryz.prog}:∀f xs v,fs1 f xs=some v→PureV S f xs v:=by
 intro f xs v h
 unfold fs1 at h
 split at h
 ·rename_i e;subst e;exact in_ok _ _ h
 exact fs0_ok _ _ _ h
attribute [go_sem] fs1 in_s
theorem ckR_p(r:Rd)(m:Int)(hm:0≤m)(hm':m≤4294967296):PureV S 128 [r.av,.int .i64 m] (.int .i64 (ckR r m)):=by
 refine PvE (Tryz.envOK (S:=S) 82 (fun _=>([],[])) fs1 fs1_ok) (.int) Tryz.kp128 Tryz.func128 rfl ?_
 intro σ
 obtain⟨k,a,b,s,x,y⟩:=r
 simp only[Rd.av]
 rcases(by omega:k=1∨k=2∨k=3∨(k<1∨3<k)) with rfl | rfl | rfl | hk
 ·simp -implicitDefEqProofs (maxSteps:=9^9) (disch:=omega) only[go_sem,simprocAttr]
  simp only[ckR];grind
 ·simp -implicitDefEqProofs (maxSteps:=9^9) (disch:=omega) only[go_sem,simprocAttr]
  simp only[ckR];grind
 ·simp -implicitDefEqProofs (maxSteps:=9^9) (disch:=omega) only[go_sem,simprocAttr]
  simp only[ckR];grind
 ·simp -implicitDefEqProofs (maxSteps:=9^9) (disch:=omega) only[go_sem,simprocAttr]
  simp only[ckR];grind
def ckR_s:=spec2 tRd tI fun r m=>if 0≤m∧m≤4294967296 then some (.int .i64 (ckR r m)) else none
theorem ckR_ok:∀xs v,ckR_s xs=some v→PureV S 128 xs v:=
 spec2_ok fun r m v h=>by have h:=someIf h;rw[← h.2];exact ckR_p r m h.1.1 h.1.2
theorem apart_p(t:List Int)(a b:Int)(ht:t.length=3)(hs:small t)(ha:0≤a∧a≤2)(hb:0≤b∧b≤2):PureV S 230 [tav t,.int .i64 a,.int .i64 b] (.int .i64 (dist (tg t a) (tg t b))):=by
 refine PvE (Tryz.envOK (S:=S) 22 Tryz.ord230 fs1 fs1_ok) (.int) Tryz.kp230 Tryz.func230 rfl ?_
 intro σ
 simp only[tav]
 have h1:=small_tg hs a
 have h2:=small_tg hs b
 simp -implicitDefEqProofs (maxSteps:=9^9) (disch:=omega) only[go_sem,simprocAttr]
 simp only[dist];grind
theorem count_p(r:Rd)(sl:Int)(t:List Int)(ht:t.length=3)(hs:small t)(ha:0≤r.a∧r.a≤2)(hk:r.kind=1)(h1:0≤r.sec∧r.sec≤20)(h2:0≤r.shown.lo∧r.shown.lo≤100000)(h3:0≤r.shown.hi∧r.shown.hi≤100000)(h4:0≤sl∧sl≤3) :
  PureV S 229 [.agg [.int .i64 r.kind,.int .i64 r.a,.int .i64 r.b,.int .i64 r.sec,.int .i64 r.shown.lo,.int .i64 r.shown.hi,.int .i64 sl],tav t] (.bool (isR r sl t)):=by
 refine PvE (Tryz.envOK (S:=S) 39 Tryz.ord229 fs1 fs1_ok) (.bool) Tryz.kp229 Tryz.func229 rfl ?_
 intro σ
 simp only[tav]
 have h5:=small_tg hs r.a
 have h6:0≤tg t r.a*r.sec∧tg t r.a*r.sec≤20000000:=⟨Int.mul_nonneg h5.1 h1.1,by have:=Int.mul_le_mul h5.2 h1.2 h1.1 (by omega);omega⟩
 simp -implicitDefEqProofs (maxSteps:=9^9) (disch:=omega) only[go_sem,simprocAttr]
 simp only[isR,hk];grind
end Go.Proofs
