/- Texts of a proof: lemmas. -/
import Derived.Test.YtgbdndlmdklefaaGreatHK34
import Derived.Test.YtgbdndlmdklefaaGreatHK27
import Derived.Test.YtgbdndlmdklefaaGreatHK28
import Derived.Test.YtgbdndlmdklefaaGreatHK22
import Derived.Laws.Bits64
set_option linter.unusedSimpArgs false
set_option linter.unusedVariables false
set_option maxRecDepth 100000
set_option maxHeartbeats 40000000
namespace Go.Proofs
open Go Go.Mu
variable {S:MC Tryz.prog}
theorem C0(l:List Rng):Plain (.list .no 2 (l.map Rng.av)):= .map fun x _=>Rng.plain x
theorem JG(l:List Rng)(hl:l.length≤4294967296):al S 143 [.list .no 2 (l.map Rng.av)] (.list .no 2 (l.map Rng.av)):=by
 refine PvE (Tryz.ah (S:=S) 6 (fun _=>([],[])) fs0 aD) (C0 _) Tryz.N5 Tryz.func143 rfl ?_
 intro σ
 simp -implicitDefEqProofs (maxSteps:=9^9) (disch:=omega) only[go_sem,simprocAttr]
def xJ:Ty (List Rng):=⟨dA 2 gj,fun l=> .list .no 2 (l.map Rng.av),qn jE⟩
theorem wm{a:AV}:xJ.dec a=dA 2 gj a:=rfl
def sq:=jh xJ fun l=>if l.length≤4294967296 then some (.list .no 2 (l.map Rng.av)) else none
theorem F4:∀xs v,sq xs=some v→al S 143 xs v:=
 gB fun l v h=>by have h:=b7 h;rw[← h.2];exact JG l h.1
theorem xO(a b:List Rng)(hl:a.length≤4294967296)(hl2:b.length≤4294967296):al S 44 [.list .no 2 (a.map Rng.av),.list .no 2 (b.map Rng.av)] (.bool (decide (a=b))):=by
 refine PvE (Tryz.ah (S:=S) 31 Tryz.xq fs0 aD) (.bool) Tryz.Qf Tryz.func44 rfl ?_
 intro σ
 simp -implicitDefEqProofs (maxSteps:=9^9) (disch:=omega) only[go_sem,simprocAttr]
 have hcl:∀x:Rng,x.av.cells=[.int .i64 x.lo,.int .i64 x.hi]:=fun _=>rfl
 have hse:∀x y:Rng,([x.lo,x.hi]==[y.lo,y.hi])=decide (x=y):=fun x y=>by
  rw[Bool.eq_iff_iff];cases x;cases y;simp
 have fin:∀b0:Bool,b0=decide (a.length=b.length)→∀(i:Nat) (c:Bool),i≤a.length→c=(decide (a.length=b.length)&&decide (a.take i=b.take i))→(c=false∨i=a.length)→c=decide (a=b):=by
  intro b0 hb0 i c hi hc h
  rcases h with rfl | rfl
  ·symm;rw[decide_eq_false_iff_not];rintro rfl;simp at hc
  ·rw[hc,List.take_length]
   by_cases hl:a.length=b.length
   ·rw[hl,List.take_length];simp[hl]
   ·have:¬a=b:=fun e=>hl (by rw[e])
    simp[hl,this]
 refine⟨fun hlen=>?_,fun hlen=>?_⟩
 ·have hlen':a.length=b.length:=by omega
  refine aj.eL (Tryz.ah (S:=S) 31 Tryz.xq fs0 aD) (α:=Nat×Bool) (fun p=>a.length-p.1) (fun p τ=>τ=σ∧p.1≤a.length∧p.2=(decide (a.length=b.length)&&decide (a.take p.1=b.take p.1))) (fun p=>[(5,.bool p.2),(6,.int .i64 p.1)]) (0,true) (by kernel_rfl) (by simp[upd,ins,aw,ae]) ⟨rfl,Nat.zero_le _,by simp[hlen']⟩ ?_
  rintro⟨i,c⟩ τ ⟨rfl,hi,hc⟩ ih
  simp only at hi hc ih
  have hfin:=fin _ rfl i c hi hc
  cases c
  ·simp -implicitDefEqProofs (maxSteps:=9^9) (disch:=omega) only[go_sem,simprocAttr]
   simpa using hfin
  ·by_cases hlt:i<a.length
   ·simp -implicitDefEqProofs (maxSteps:=9^9) (disch:=omega) only[go_sem,simprocAttr,hcl]
    have hib:i<b.length:=by omega
    have ta:=List.take_succ_eq_append_getElem hlt
    have tb:=List.take_succ_eq_append_getElem hib
    have hx:([a[i].lo,a[i].hi]=[b[i].lo,b[i].hi])=(a[i]=b[i]):=by
     have:=hse a[i] b[i]
     rw[Bool.eq_iff_iff] at this
     simpa using this
    have htk:a.take i=b.take i:=by simpa[hlen'] using hc
    rw[hx]
    refine⟨fun h=>(ih (i+1,true) _ (by simp only;omega) ⟨rfl,by simp only;omega,?_⟩).ay rfl (by simp[upd,ins,aw,ae]),fun h=>(ih (i+1,false) _ (by simp only;omega) ⟨rfl,by simp only;omega,?_⟩).ay rfl (by simp[upd,ins,aw,ae])⟩
    ·have:a.take (i+1)=b.take (i+1):=by rw[ta,tb,htk,h]
     simp[this,hlen']
    ·have:¬a.take (i+1)=b.take (i+1):=fun e2=>by
      rw[ta,tb,htk] at e2
      exact h (by simpa only[List.append_cancel_left_eq,List.cons.injEq,and_true] using e2)
     simp[this]
   ·have:i=a.length:=by omega
    simp -implicitDefEqProofs (maxSteps:=9^9) (disch:=omega) only[go_sem,simprocAttr]
    simpa[this] using hfin
 ·have hlen':¬a.length=b.length:=by omega
  refine aj.eL (Tryz.ah (S:=S) 31 Tryz.xq fs0 aD) (α:=Nat×Bool) (fun p=>a.length-p.1) (fun p τ=>τ=σ∧p.1≤a.length∧p.2=false) (fun p=>[(5,.bool p.2),(6,.int .i64 p.1)]) (0,false) (by kernel_rfl) (by simp[upd,ins,aw,ae]) ⟨rfl,Nat.zero_le _,rfl⟩ ?_
  rintro⟨i,c⟩ τ ⟨rfl,hi,hc⟩ ih
  simp only at hi hc ih
  subst hc
  simp -implicitDefEqProofs (maxSteps:=9^9) (disch:=omega) only[go_sem,simprocAttr]
  have:¬a=b:=fun e=>hlen' (by rw[e])
  simp[this]
def lX:=cW xJ xJ fun a b=>if a.length≤4294967296∧b.length≤4294967296 then some (.bool (decide (a=b))) else none
theorem wY:∀xs v,lX xs=some v→al S 44 xs v:=
 cj fun a b v h=>by have h:=b7 h;rw[← h.2];exact xO a b h.1.1 h.1.2
def kG(f:FuncId)(xs:List AV):Option AV:=if f=143 then sq xs else if f=44 then lX xs else CE f xs
theorem il{S:MC Tryz.prog}:∀f xs v,kG f xs=some v→al S f xs v:=by
 intro f xs v h
 unfold kG at h
 split at h
 ·rename_i e;subst e;exact F4 _ _ h
 split at h
 ·rename_i e;subst e;exact wY _ _ h
 exact PC _ _ _ h
attribute [go_sem] kG sq lX
theorem Jv(l:List Int)(tk:Tok)(hl:l.length≤4294967296)(σ:List aa)(Q:AV→List aa→Prop)(h:∀s junk,Q (.ptr σ.length 0) (σ++(.cells [.int .u64 s]::junk))):ao S 19 [.list tk 1 (l.map (.int .i64))] σ Q:=by
 refine AcE (Tryz.ah (S:=S) 41 Tryz.E9 fs0 aD) Tryz.RR Tryz.func19 rfl ?_
 simp -implicitDefEqProofs (maxSteps:=9^9) (disch:=omega) only[go_sem,simprocAttr]
 refine aj.kL (Tryz.ah (S:=S) 41 Tryz.E9 fs0 aD) l.length (fun i τ=>∃s j,τ=σ++(.cells [.int .u64 s]::j)) (fun i=>[(4,.int .i64 i)]) (by kernel_rfl) (by simp[upd,ins,aw,ae]) ⟨_,[],rfl⟩ ?_ ?_
 ·rintro i τ hi ⟨s,j,rfl⟩ ih
  simp -implicitDefEqProofs (maxSteps:=9^9) (disch:=omega) only[go_sem,simprocAttr]
  exact(ih _ ⟨_,_,rfl⟩).ay rfl (by simp[upd,ins,aw,ae])
 ·rintro τ ⟨s,j,rfl⟩
  simp -implicitDefEqProofs (maxSteps:=9^9) (disch:=omega) only[go_sem,simprocAttr]
  exact h _ _
attribute [go_sem] wm
theorem aj.once{E:Env}(hE:cm E){ro:Option Nat}{c:Code}{k:List Item}{kp:Nat→Bool}{tm sl:List (Nat×AV)}{σ:List aa}{Q:au}
  (hO:dG E (.code c:: .inLoop c::k)=true) (h:ev E ro 100000 (.code c:: .inLoop c::k) ⟨kp,[],sl⟩ σ Q):aj E ro (.code (.loop c)::k) ⟨kp,tm,sl⟩ σ Q:=
 aj.eC (fr:=⟨kp,tm,sl⟩) (.loop (aR hE hO h))
theorem pK{α:Type}[DecidableEq α]{a b:List α}{i:Nat}(hl:a.length=b.length)(h:i<a.length)(ht:a.take i=b.take i):(a.take (i+1)=b.take (i+1))↔a[i]=b[i]'(by omega):=by
 have ta:=List.take_succ_eq_append_getElem h
 have tb:=List.take_succ_eq_append_getElem (l:=b) (i:=i) (by omega)
 rw[ta,tb,ht]
 simp only[List.append_cancel_left_eq,List.cons.injEq,and_true]
theorem CY(a b:List Int)(hl:a.length≤4294967296)(hl2:b.length≤4294967296):al S 51 [.list .no 1 (a.map (.int .i64)),.list .no 1 (b.map (.int .i64))] (.bool (decide (a=b))):=by
 refine PvE (Tryz.ah (S:=S) 31 Tryz.xA fs0 aD) (.bool) Tryz.Rw Tryz.func51 rfl ?_
 intro σ
 by_cases hlen:a.length=b.length
 ·have hz:((a.length:Int)=b.length):=by omega
  simp -implicitDefEqProofs (maxSteps:=9^9) (disch:=omega) only[go_sem,simprocAttr]
  refine aj.eL (Tryz.ah (S:=S) 31 Tryz.xA fs0 aD) (α:=Nat×Bool) (fun p=>a.length-p.1) (fun p τ=>τ=σ∧p.1≤a.length∧p.2=decide (a.take p.1=b.take p.1)) (fun p=>[(5,.bool p.2),(6,.int .i64 p.1)]) (0,true) (by kernel_rfl) (by simp[upd,ins,aw,ae]) ⟨rfl,Nat.zero_le _,by simp⟩ ?_
  rintro⟨i,c⟩ τ ⟨rfl,hi,hc⟩ ih
  simp only at hi hc ih
  cases c
  ·simp -implicitDefEqProofs (maxSteps:=9^9) (disch:=omega) only[go_sem,simprocAttr]
   have:¬a=b:=fun e=>by subst e;simp at hc
   simp[this]
  ·have htk:a.take i=b.take i:=by simpa using hc
   by_cases hlt:i<a.length
   ·have hst:=pK hlen hlt htk
    have hia:idx (a.map (AV.int .i64)) (i:Int)=some (.int .i64 a[i]):=bu hlt
    have hib:idx (b.map (AV.int .i64)) (i:Int)=some (.int .i64 (b[i]'(by omega))):=bu (by omega)
    generalize a[i]=x at hst hia
    generalize b[i]'(by omega)=y at hst hib
    clear hc htk
    simp -implicitDefEqProofs (maxSteps:=9^9) (disch:=omega) only[go_sem,simprocAttr,hia,hib]
    refine⟨fun h=>(ih (i+1,true) _ (by simp only;omega) ⟨rfl,by simp only;omega,?_⟩).ay rfl (by simp[upd,ins,aw,ae]),fun h=>(ih (i+1,false) _ (by simp only;omega) ⟨rfl,by simp only;omega,?_⟩).ay rfl (by simp[upd,ins,aw,ae])⟩
    ·simp[hst,h]
    ·simp[hst,h]
   ·have:i=a.length:=by omega
    subst this
    simp -implicitDefEqProofs (maxSteps:=9^9) (disch:=omega) only[go_sem,simprocAttr]
    have:a=b:=by rwa [List.take_length,hlen,List.take_length] at htk
    simp[this]
 ·have hz:¬((a.length:Int)=b.length):=by omega
  have:¬a=b:=fun e=>hlen (by rw[e])
  simp -implicitDefEqProofs (maxSteps:=9^9) (disch:=omega) only[go_sem,simprocAttr]
  refine aj.once (Tryz.ah (S:=S) 31 Tryz.xA fs0 aD) (by kernel_rfl) ?_
  simp -implicitDefEqProofs (maxSteps:=9^9) (disch:=omega) only[go_sem,simprocAttr]
  simp[this]
def nP:=cW tIs tIs fun a b=>if a.length≤4294967296∧b.length≤4294967296 then some (.bool (decide (a=b))) else none
theorem AG:∀xs v,nP xs=some v→al S 51 xs v:=
 cj fun a b v h=>by have h:=b7 h;rw[← h.2];exact CY a b h.1.1 h.1.2
theorem Ph(x y:Rd):([x.kind,x.a,x.b,x.sec,x.shown.lo,x.shown.hi]==[y.kind,y.a,y.b,y.sec,y.shown.lo,y.shown.hi])=decide (x=y):=by
 rw[Bool.eq_iff_iff]
 obtain⟨x1,x2,x3,x4,x5,x6⟩:=x
 obtain⟨y1,y2,y3,y4,y5,y6⟩:=y
 simp
theorem EK(x y:Ear)(h1:x.tones.length≤4294967296)(h2:x.rds.length≤4294967296)(h3:y.tones.length≤4294967296)(h4:y.rds.length≤4294967296):al S 101 [x.av,y.av] (.bool (decide (x=y))):=by
 refine PvE (Tryz.ah (S:=S) 50 Tryz.mU kG il) (.bool) Tryz.Mi Tryz.func101 rfl ?_
 intro σ
 obtain⟨s,ts,a⟩:=x
 obtain⟨s',us,b⟩:=y
 simp only at h1 h2 h3 h4
 have heq:((⟨s,ts,a⟩: Ear)=⟨s',us,b⟩)=(s=s'∧ts=us∧a=b):=by simp
 rw[show decide ((⟨s,ts,a⟩: Ear)=⟨s',us,b⟩)=decide (s=s'∧ts=us∧a=b) by simp]
 simp only[Ear.av]
 by_cases e1:s=s'
 ·by_cases e2:ts=us
  ·subst e1 e2
   by_cases hlen:a.length=b.length
   ·have hz:((a.length:Int)=b.length):=by omega
    simp -implicitDefEqProofs (maxSteps:=9^9) (disch:=omega) only[go_sem,simprocAttr]
    refine aj.eL (Tryz.ah (S:=S) 50 Tryz.mU kG il) (α:=Nat×Bool) (fun p=>a.length-p.1) (fun p τ=>τ=σ++[.cells [.int .i64 s,.list .no 2 (ts.map Rng.av),.list .no 6 (a.map Rd.av)],.cells [.int .i64 s,.list .no 2 (ts.map Rng.av),.list .no 6 (b.map Rd.av)]]∧p.1≤a.length∧p.2=decide (a.take p.1=b.take p.1)) (fun p=>[(5,.bool p.2),(6,.int .i64 p.1)]) (0,true) (by kernel_rfl) (by simp[upd,ins,aw,ae]) ⟨rfl,Nat.zero_le _,by simp⟩ ?_
    rintro⟨i,c⟩ τ ⟨rfl,hi,hc⟩ ih
    simp only at hi hc ih
    cases c
    ·simp -implicitDefEqProofs (maxSteps:=9^9) (disch:=omega) only[go_sem,simprocAttr]
     have:¬a=b:=fun e=>by subst e;simp at hc
     simp[this]
    ·have htk:a.take i=b.take i:=by simpa using hc
     by_cases hlt:i<a.length
     ·have hst:=pK hlen hlt htk
      have hia:idx (a.map Rd.av) (i:Int)=some a[i].av:=bu hlt
      have hib:idx (b.map Rd.av) (i:Int)=some (b[i]'(by omega)).av:=bu (by omega)
      generalize a[i]=x at hst hia
      generalize b[i]'(by omega)=y at hst hib
      have hrd:=Ph x y
      clear hc htk
      simp -implicitDefEqProofs (maxSteps:=9^9) (disch:=omega) only[go_sem,simprocAttr,hia,hib,Rd.av]
      have hx:([x.kind,x.a,x.b,x.sec,x.shown.lo,x.shown.hi]=[y.kind,y.a,y.b,y.sec,y.shown.lo,y.shown.hi])=(x=y):=by
       rw[Bool.eq_iff_iff] at hrd
       simpa using hrd
      rw[hx]
      refine⟨fun h=>(ih (i+1,true) _ (by simp only;omega) ⟨by simp,by simp only;omega,?_⟩).ay rfl (by simp[upd,ins,aw,ae]),fun h=>(ih (i+1,false) _ (by simp only;omega) ⟨by simp,by simp only;omega,?_⟩).ay rfl (by simp[upd,ins,aw,ae])⟩
      ·simp[hst,h]
      ·simp[hst,h]
     ·have:i=a.length:=by omega
      subst this
      simp -implicitDefEqProofs (maxSteps:=9^9) (disch:=omega) only[go_sem,simprocAttr]
      have:a=b:=by rwa [List.take_length,hlen,List.take_length] at htk
      simp[this]
   ·have hz:¬((a.length:Int)=b.length):=by omega
    have:¬a=b:=fun e=>hlen (by rw[e])
    simp -implicitDefEqProofs (maxSteps:=9^9) (disch:=omega) only[go_sem,simprocAttr]
    refine aj.once (Tryz.ah (S:=S) 50 Tryz.mU kG il) (by kernel_rfl) ?_
    simp -implicitDefEqProofs (maxSteps:=9^9) (disch:=omega) only[go_sem,simprocAttr]
    simp[this]
  ·simp -implicitDefEqProofs (maxSteps:=9^9) (disch:=omega) only[go_sem,simprocAttr,e2]
   refine aj.once (Tryz.ah (S:=S) 50 Tryz.mU kG il) (by kernel_rfl) ?_
   simp -implicitDefEqProofs (maxSteps:=9^9) (disch:=omega) only[go_sem,simprocAttr,e2]
 ·simp -implicitDefEqProofs (maxSteps:=9^9) (disch:=omega) only[go_sem,simprocAttr]
  refine aj.once (Tryz.ah (S:=S) 50 Tryz.mU kG il) (by kernel_rfl) ?_
  simp -implicitDefEqProofs (maxSteps:=9^9) (disch:=omega) only[go_sem,simprocAttr,e1]
end Go.Proofs
namespace Go.Proofs
open Go Go.Mu Go.Ins
variable {S:MC Tryz.prog}
theorem SY(a b:Int):al S 60 [.int .i64 a,.int .i64 b] (Rng.mk a b).av:=by
 refine PvE (Tryz.ah (S:=S) 8 (fun _=>([],[])) fs0 aD) (Rng.plain _) Tryz.QT Tryz.func60 rfl ?_
 intro σ
 simp -implicitDefEqProofs (maxSteps:=9^9) (disch:=omega) only[go_sem,simprocAttr,Rng.av]
def EE:=cW tI tI fun a b=>some (Rng.mk a b).av
theorem RY:∀xs v,EE xs=some v→al S 60 xs v:=
 cj fun a b v h=>by simp only[Option.some.injEq] at h;rw[← h];exact SY a b
def iD(f:FuncId)(xs:List AV):Option AV:=if f=60 then EE xs else if f=51 then nP xs else dk f xs
theorem fM{S:MC Tryz.prog}:∀f xs v,iD f xs=some v→al S f xs v:=by
 intro f xs v h
 unfold iD at h
 split at h
 ·rename_i e;subst e;exact RY _ _ h
 split at h
 ·rename_i e;subst e;exact AG _ _ h
 exact cx _ _ _ h
attribute [go_sem] iD EE nP
theorem n8(d b due lo hi:Int):al S 63 [.int .i64 d,.int .i64 b,.int .i64 due,.int .i64 lo,.int .i64 hi] (tnd d b due lo hi).av:=by
 refine PvE (Tryz.ah (S:=S) 20 (fun _=>([],[])) iD fM) ((Plain.agg (Tn.yG _))) Tryz.QQ Tryz.func63 rfl ?_
 intro σ
 simp -implicitDefEqProofs (maxSteps:=9^9) (disch:=omega) only[go_sem,simprocAttr,Rng.av,Tn.av,Tn.cells,tnd]
theorem py:al S 91 [] cV.av:=by
 refine PvE (Tryz.ah (S:=S) 7 (fun _=>([],[])) iD fM) (Ros.plain _) Tryz.P9 Tryz.func91 rfl ?_
 intro σ
 simp -implicitDefEqProofs (maxSteps:=9^9) (disch:=omega) only[go_sem,simprocAttr,Rng.av]
 refine n8 _ _ _ _ _ _ _ ?_
 simp -implicitDefEqProofs (maxSteps:=9^9) (disch:=omega) only[go_sem,simprocAttr,Rng.av]
 refine n8 _ _ _ _ _ _ _ ?_
 simp -implicitDefEqProofs (maxSteps:=9^9) (disch:=omega) only[go_sem,simprocAttr,Rng.av]
 refine n8 _ _ _ _ _ _ _ ?_
 simp only[Tn.av,Tn.cells,tnd,List.map_cons,List.map_nil,Rng.av]
 simp -implicitDefEqProofs (maxSteps:=9^9) (disch:=omega) only[go_sem,simprocAttr,Rng.av,Ros.av,cV,Tn.av,Tn.cells,tnd]
theorem Q9:al S 90 [] gU.av:=by
 refine PvE (Tryz.ah (S:=S) 7 (fun _=>([],[])) iD fM) (Ros.plain _) Tryz.Rr Tryz.func90 rfl ?_
 intro σ
 simp -implicitDefEqProofs (maxSteps:=9^9) (disch:=omega) only[go_sem,simprocAttr,Rng.av]
 refine py _ _ ?_
 simp only[Ros.av]
 simp -implicitDefEqProofs (maxSteps:=9^9) (disch:=omega) only[go_sem,simprocAttr,Rng.av]
 refine n8 _ _ _ _ _ _ _ ?_
 simp only[Tn.av,Tn.cells,tnd,List.map_cons,List.map_nil,Rng.av]
 simp -implicitDefEqProofs (maxSteps:=9^9) (disch:=omega) only[go_sem,simprocAttr,Rng.av,Ros.av,cV,gU,Tn.av,Tn.cells,tnd]
theorem xQ(a b:List (List Int))(hl:a.length≤4294967296)(hl2:b.length≤4294967296)(ha:∀x∈a,x.length≤4294967296)(hb:∀x∈b,x.length≤4294967296):al S 50 [.list .no 1 (a.map ar),.list .no 1 (b.map ar)] (.bool (decide (a=b))):=by
 refine PvE (Tryz.ah (S:=S) 31 Tryz.xk iD fM) (.bool) Tryz.RD Tryz.func50 rfl ?_
 intro σ
 by_cases hlen:a.length=b.length
 ·have hz:((a.length:Int)=b.length):=by omega
  simp -implicitDefEqProofs (maxSteps:=9^9) (disch:=omega) only[go_sem,simprocAttr]
  refine aj.eL (Tryz.ah (S:=S) 31 Tryz.xk iD fM) (α:=Nat×Bool) (fun p=>a.length-p.1) (fun p τ=>τ=σ∧p.1≤a.length∧p.2=decide (a.take p.1=b.take p.1)) (fun p=>[(5,.bool p.2),(6,.int .i64 p.1)]) (0,true) (by kernel_rfl) (by simp[upd,ins,aw,ae]) ⟨rfl,Nat.zero_le _,by simp⟩ ?_
  rintro⟨i,c⟩ τ ⟨rfl,hi,hc⟩ ih
  simp only at hi hc ih
  cases c
  ·simp -implicitDefEqProofs (maxSteps:=9^9) (disch:=omega) only[go_sem,simprocAttr]
   have:¬a=b:=fun e=>by subst e;simp at hc
   simp[this]
  ·have htk:a.take i=b.take i:=by simpa using hc
   by_cases hlt:i<a.length
   ·have hst:=pK hlen hlt htk
    have hia:idx (a.map ar) (i:Int)=some (ar a[i]):=bu hlt
    have hib:idx (b.map ar) (i:Int)=some (ar (b[i]'(by omega))):=bu (by omega)
    have hxl:=ha _ (List.getElem_mem hlt)
    have hyl:=hb _ (List.getElem_mem (show i<b.length by omega))
    generalize a[i]=x at hst hia hxl
    generalize b[i]'(by omega)=y at hst hib hyl
    clear hc htk
    simp -implicitDefEqProofs (maxSteps:=9^9) (disch:=omega) only[go_sem,simprocAttr,hia,hib,ar]
    refine⟨fun h=>(ih (i+1,true) _ (by simp only;omega) ⟨rfl,by simp only;omega,?_⟩).ay rfl (by simp[upd,ins,aw,ae]),fun h=>(ih (i+1,false) _ (by simp only;omega) ⟨rfl,by simp only;omega,?_⟩).ay rfl (by simp[upd,ins,aw,ae])⟩
    ·simp[hst,h]
    ·simp[hst,h]
   ·have:i=a.length:=by omega
    subst this
    simp -implicitDefEqProofs (maxSteps:=9^9) (disch:=omega) only[go_sem,simprocAttr]
    have:a=b:=by rwa [List.take_length,hlen,List.take_length] at htk
    simp[this]
 ·have hz:¬((a.length:Int)=b.length):=by omega
  have:¬a=b:=fun e=>hlen (by rw[e])
  simp -implicitDefEqProofs (maxSteps:=9^9) (disch:=omega) only[go_sem,simprocAttr]
  refine aj.once (Tryz.ah (S:=S) 31 Tryz.xk iD fM) (by kernel_rfl) ?_
  simp -implicitDefEqProofs (maxSteps:=9^9) (disch:=omega) only[go_sem,simprocAttr]
  simp[this]
end Go.Proofs
namespace Go.Proofs
open Go Go.Mu
variable {S:MC Tryz.prog}
def vg:=jk tI tI tI fun n lo hi=>some (.bool (decide (lo≤n∧n≤hi)))
theorem K9:∀xs v,vg xs=some v→al S 96 xs v:=by
 refine gM fun n lo hi v h=>?_
 simp only[Option.some.injEq] at h;subst h
 refine PvE (Tryz.ah (S:=S) 15 (fun _=>([],[])) fs0 aD) (.bool) Tryz.P5 Tryz.func96 rfl ?_
 intro σ
 simp only[tI]
 simp -implicitDefEqProofs (maxSteps:=9^9) (disch:=omega) only[go_sem,simprocAttr]
 refine⟨fun h1=>⟨fun h2=>?_,fun h2=>?_⟩,fun h1=>?_⟩<;> simp[h1, *]
def fE(f:FuncId)(xs:List AV):Option AV:=if f=96 then vg xs else if f=149 then r8 xs else qz f xs
theorem dJ{S:MC Tryz.prog}:∀f xs v,fE f xs=some v→al S f xs v:=by
 intro f xs v h
 unfold fE at h
 split at h
 ·rename_i e;subst e;exact K9 _ _ h
 split at h
 ·rename_i e;subst e;exact F2 _ _ h
 exact rP _ _ _ h
attribute [go_sem] fE vg r8
def pq(x:Tn)(hands:Int):Int:=
 if¬(0≤x.day∧x.day≤60) then 1 else if¬(-1≤x.hand∧x.hand≤IntKind.i64.wrap (hands-1)) then 3 else if¬(1≤x.due∧x.due≤100000) then 1
 else if ck x.ear≠0 then ck x.ear else if 1<x.ear.tones.length then 6 else(cL x.ear).2
theorem QY(r:Ros)(x:Tn)(h1:x.ear.tones.length≤1000000)(h2:x.ear.rds.length≤1000000):al S 105 [r.av,x.av] (.int .i64 (pq x r.hands)):=by
 refine PvE (Tryz.ah (S:=S) 41 (fun _=>([],[])) fE dJ) (.int) Tryz.NO Tryz.func105 rfl ?_
 intro σ
 obtain⟨day,hand,due,ear⟩:=x
 obtain⟨sl,ts,rs⟩:=ear
 simp only[Ros.av,Tn.av,Tn.cells] at h1 h2⊢
 unfold pq
 simp only
 by_cases c1:0≤day∧day≤60
 ·rw[if_neg (by omega)]
  by_cases c2: -1≤hand∧hand≤IntKind.i64.wrap (r.hands-1)
  ·rw[if_neg (fun c=>c c2)]
   by_cases c3:1≤due∧due≤100000
   ·rw[if_neg (fun c=>c c3)]
    generalize hk:ck ⟨sl,ts,rs⟩= k
    generalize ht:cL ⟨sl,ts,rs⟩= T
    obtain⟨T1,T2⟩:=T
    by_cases c4:k=0
    ·subst c4
     rw[if_neg (by simp)]
     by_cases c5:1<ts.length
     ·rw[if_pos c5]
      have c5':(1<(ts.length:Int))=True:=eq_true (by omega)
      simp -implicitDefEqProofs (maxSteps:=9^9) (disch:=omega) only[go_sem,simprocAttr,c1,c2,c3,hk,ht,c5']
     ·rw[if_neg c5]
      have c5':(1<(ts.length:Int))=False:=eq_false (by omega)
      simp -implicitDefEqProofs (maxSteps:=9^9) (disch:=omega) only[go_sem,simprocAttr,c1,c2,c3,hk,ht,c5']
    ·rw[if_pos c4]
     simp -implicitDefEqProofs (maxSteps:=9^9) (disch:=omega) only[go_sem,simprocAttr,c1,c2,c3,hk,ht,c4]
   ·rw[if_pos c3]
    simp -implicitDefEqProofs (maxSteps:=9^9) (disch:=omega) only[go_sem,simprocAttr,c1,c2,c3]
  ·rw[if_pos c2]
   simp -implicitDefEqProofs (maxSteps:=9^9) (disch:=omega) only[go_sem,simprocAttr,c1,c2]
 ·rw[if_pos c1]
  simp -implicitDefEqProofs (maxSteps:=9^9) (disch:=omega) only[go_sem,simprocAttr,c1]
def Fg(r:Ros):Int:=if bX r≠0 then bX r else bM (fun x=>pq x r.hands) r.ents
theorem nR(r:Ros)(h1:r.sets.length≤1000000)(h2:r.ents.length≤1000000)(h3:∀x∈r.ents,x.ear.tones.length≤1000000∧x.ear.rds.length≤1000000):al S 43 [r.av] (.int .i64 (Fg r)):=by
 refine PvE (Tryz.ah (S:=S) 88 Tryz.xy fE dJ) (.int) Tryz.RG Tryz.func43 rfl ?_
 intro σ
 have hent:=fun x hx=>QY (S:=S) r x (h3 x hx).1 (h3 x hx).2
 obtain⟨hands,skill,mn,mx,sets,ents⟩:=r
 simp only[Ros.av] at h1 h2 h3 hent⊢
 unfold Fg
 simp only
 by_cases c1:1≤hands∧hands≤4
 ·have d1:decide (1≤hands∧hands≤4)=true:=decide_eq_true c1
  by_cases c2:0≤skill∧skill≤9
  ·have d2:decide (0≤skill∧skill≤9)=true:=decide_eq_true c2
   by_cases c3: -5≤mn∧mn≤5
   ·have d3:decide (-5≤mn∧mn≤5)=true:=decide_eq_true c3
    by_cases c4: -5≤mx∧mx≤5
    ·have d4:decide (-5≤mx∧mx≤5)=true:=decide_eq_true c4
     by_cases c5:mx<mn
     ·have c5':(mx<mn)=True:=eq_true c5
      simp -implicitDefEqProofs (maxSteps:=9^9) (disch:=omega) only[go_sem,simprocAttr,d1,d2,d3,d4,c5']
      simp[bX,c1,c2,c3,c4,c5]
     ·have c5':(mx<mn)=False:=eq_false c5
      by_cases c6:4<sets.length
      ·have c6':(4<(sets.length:Int))=True:=eq_true (by omega)
       simp -implicitDefEqProofs (maxSteps:=9^9) (disch:=omega) only[go_sem,simprocAttr,d1,d2,d3,d4,c5',c6']
       simp[bX,c1,c2,c3,c4,c5,c6]
      ·have c6':(4<(sets.length:Int))=False:=eq_false (by omega)
       have hH:bX ⟨hands,skill,mn,mx,sets,ents⟩= if bM (eN hands) sets≠0 then bM (eN hands) sets else if 5<ents.length then 6 else 0:=by
        simp[bX,c1,c2,c3,c4,c5,c6]
       rw[hH]
       have hw:IntKind.i64.wrap (hands-1)=hands-1:=wrap64 (by omega) (by omega)
       simp -implicitDefEqProofs (maxSteps:=9^9) (disch:=omega) only[go_sem,simprocAttr,d1,d2,d3,d4,c5',c6']
       refine aj.bE (Tryz.ah (S:=S) 88 Tryz.xy fE dJ) sets.length (fun i=>bM (eN hands) (sets.drop i)=bM (eN hands) sets) (fun i=>[(3,.int .i64 i)]) (fun _ _=>σ++[.cells [.int .i64 hands,.int .i64 skill,.int .i64 mn,.int .i64 mx,.list .no 2 (sets.map Sg.av),.list .no 6 (ents.map Tn.av)]]) [] (by kernel_rfl) rfl (by simp[upd,ins,aw,ae]) (by simp) ?_ ?_
       ·intro i j hi hp ih
        rw[fu hi] at hp
        have hidx:idx (sets.map Sg.av) (i:Int)=some (Sg.av sets[i]):=bu hi
        have hwi:IntKind.i64.wrap ((i:Int)+1)=((i+1:Nat):Int):=by rw[wrap64 (by omega) (by omega)];rfl
        generalize sets[i]=s at hidx hp
        simp only[Sg.av] at hidx
        by_cases p1:0≤s.hand∧s.hand≤hands-1
        ·have p1':decide (0≤s.hand∧s.hand≤hands-1)=true:=decide_eq_true p1
         by_cases p2:0≤s.day∧s.day≤60
         ·have p2':decide (0≤s.day∧s.day≤60)=true:=decide_eq_true p2
          have e:eN hands s=0:=by simp[eN,p1,p2]
          rw[e,if_pos rfl] at hp
          simp -implicitDefEqProofs (maxSteps:=9^9) (disch:=omega) only[go_sem,simprocAttr,hidx,hw,p1',p2',hwi]
          exact(ih hp []).ay rfl (by simp[upd,ins,aw,ae])
         ·have p2':decide (0≤s.day∧s.day≤60)=false:=decide_eq_false p2
          have e:eN hands s=1:=by unfold eN;rw[if_neg (fun c=>c p1),if_pos p2]
          rw[e,if_neg (by decide)] at hp
          rw[← hp]
          simp -implicitDefEqProofs (maxSteps:=9^9) (disch:=omega) only[go_sem,simprocAttr,hidx,hw,p1',p2']
        ·have p1':decide (0≤s.hand∧s.hand≤hands-1)=false:=decide_eq_false p1
         have e:eN hands s=3:=by unfold eN;rw[if_pos p1]
         rw[e,if_neg (by decide)] at hp
         rw[← hp]
         simp -implicitDefEqProofs (maxSteps:=9^9) (disch:=omega) only[go_sem,simprocAttr,hidx,hw,p1']
       ·intro j hp
        rw[fV] at hp
        rw[← hp]
        by_cases c7:5<ents.length
        ·have c7':(5<(ents.length:Int))=True:=eq_true (by omega)
         rw[show(if¬(0:Int)=0 then(0:Int) else if 5<ents.length then 6 else 0)=6 by simp[c7],if_pos (by decide)]
         simp -implicitDefEqProofs (maxSteps:=9^9) (disch:=omega) only[go_sem,simprocAttr,c7']
        ·have c7':(5<(ents.length:Int))=False:=eq_false (by omega)
         rw[show(if¬(0:Int)=0 then(0:Int) else if 5<ents.length then 6 else 0)=0 by simp[c7],if_neg (by decide)]
         simp -implicitDefEqProofs (maxSteps:=9^9) (disch:=omega) only[go_sem,simprocAttr,c7']
         refine aj.bE (Tryz.ah (S:=S) 88 Tryz.xy fE dJ) ents.length (fun i=>bM (fun x=>pq x hands) (ents.drop i)=bM (fun x=>pq x hands) ents) (fun i=>[(4,.int .i64 i)]) (fun _ _=>σ++[.cells [.int .i64 hands,.int .i64 skill,.int .i64 mn,.int .i64 mx,.list .no 2 (sets.map Sg.av),.list .no 6 (ents.map Tn.av)]]) [] (by kernel_rfl) rfl (by simp[upd,ins,aw,ae]) (by simp) ?_ ?_
         ·intro i j hi hp ih
          rw[fu hi] at hp
          have hidx:idx (ents.map Tn.av) (i:Int)=some (Tn.av ents[i]):=bu hi
          have hwi:IntKind.i64.wrap ((i:Int)+1)=((i+1:Nat):Int):=by rw[wrap64 (by omega) (by omega)];rfl
          have he:=hent _ (List.getElem_mem hi)
          generalize ents[i]=x at hidx hp he
          simp only[Tn.av,Tn.cells] at hidx
          simp -implicitDefEqProofs (maxSteps:=9^9) (disch:=omega) only[go_sem,simprocAttr,hidx]
          refine he _ _ ?_
          generalize pq x hands=v at hp⊢
          by_cases hv:v=0
          ·rw[if_pos hv] at hp
           simp -implicitDefEqProofs (maxSteps:=9^9) (disch:=omega) only[go_sem,simprocAttr,hidx,hv,hwi]
           exact(ih hp []).ay rfl (by simp[upd,ins,aw,ae])
          ·rw[if_neg hv] at hp
           have hv':(v=0)=False:=eq_false hv
           rw[← hp]
           simp -implicitDefEqProofs (maxSteps:=9^9) (disch:=omega) only[go_sem,simprocAttr,hidx,hv']
         ·intro j hp
          rw[fV] at hp
          rw[← hp]
          simp -implicitDefEqProofs (maxSteps:=9^9) (disch:=omega) only[go_sem,simprocAttr]
    ·have d4:decide (-5≤mx∧mx≤5)=false:=decide_eq_false c4
     simp -implicitDefEqProofs (maxSteps:=9^9) (disch:=omega) only[go_sem,simprocAttr,d1,d2,d3,d4]
     simp[bX,c1,c2,c3,c4]
   ·have d3:decide (-5≤mn∧mn≤5)=false:=decide_eq_false c3
    simp -implicitDefEqProofs (maxSteps:=9^9) (disch:=omega) only[go_sem,simprocAttr,d1,d2,d3]
    simp[bX,c1,c2,c3]
  ·have d2:decide (0≤skill∧skill≤9)=false:=decide_eq_false c2
   simp -implicitDefEqProofs (maxSteps:=9^9) (disch:=omega) only[go_sem,simprocAttr,d1,d2]
   simp[bX,c1,c2]
 ·have d1:decide (1≤hands∧hands≤4)=false:=decide_eq_false c1
  simp -implicitDefEqProofs (maxSteps:=9^9) (disch:=omega) only[go_sem,simprocAttr,d1]
  simp[bX,c1]
def dS(σ:List aa)(r:Nat):Prop:=∃s,ai σ r=some (.cells [.int .u64 s])
def pw(σ:List aa)(r:Nat)(s:Int):List aa:=ax σ r (.cells [.int .u64 s])
theorem MG{σ:List aa}{r:Nat}{s t:Int}:pw (pw σ r s) r t=pw σ r t:=wD
theorem dS.pw{σ:List aa}{r:Nat}(h:dS σ r)(s:Int):dS (pw σ r s) r:=by obtain⟨u,h⟩:=h;exact⟨s,cN h _⟩
theorem N9{σ:List aa}{r:Nat}(h:dS σ r):∃s,pw σ r s=σ:=by obtain⟨s,h⟩:=h;exact⟨s,mu h⟩
theorem Qs(r:Nat)(σ:List aa)(hp:dS σ r)(Q:AV→List aa→Prop)(h:∀s' x,0≤x→x<18446744073709551616→Q (.int .u64 x) (pw σ r s')):ao S 102 [.ptr r 0] σ Q:=by
 obtain⟨s,hg⟩:=hp
 refine AcE (Tryz.ah (S:=S) 31 (fun _=>([],[])) fs0 aD) Tryz.L6 Tryz.func102 rfl ?_
 have hg2:=fun o=>cN hg o
 simp -implicitDefEqProofs (maxSteps:=9^9) (disch:=omega) only[go_sem,simprocAttr,hg,hg2]
 exact h _ _ (by rw[IntKind.wrap_u64];omega) (by rw[IntKind.wrap_u64];omega)
theorem gf(r:Nat)(most:Int)(hm:most<9223372036854775807)(σ:List aa)(hp:dS σ r)(Q:AV→List aa→Prop)(h:∀s' x,0≤x→x≤max 0 most→Q (.int .i64 x) (pw σ r s')):ao S 38 [.ptr r 0,.int .i64 most] σ Q:=by
 refine AcE (Tryz.ah (S:=S) 15 (fun _=>([],[])) fs0 aD) Tryz.QC Tryz.func38 rfl ?_
 by_cases h1:most<1
 ·simp -implicitDefEqProofs (maxSteps:=9^9) (disch:=omega) only[go_sem,simprocAttr]
  obtain⟨s,hs⟩:=N9 hp
  have:=h s 0 (by omega) (by omega)
  rwa [hs] at this
 ·have e2:IntKind.u64.wrap (most+1)=most+1:=by rw[IntKind.wrap_u64];omega
  simp -implicitDefEqProofs (maxSteps:=9^9) (disch:=omega) only[go_sem,simprocAttr,e2]
  refine Qs r σ hp _ fun s' x h2 h3=>?_
  have hy:0≤x.fdiv (2^min 11 64):=Int.fdiv_nonneg h2 (by decide)
  simp -implicitDefEqProofs (maxSteps:=9^9) (disch:=omega) only[go_sem,simprocAttr,e2]
  generalize x.fdiv (2^min 11 64)=y at hy⊢
  have h4:=Int.tmod_nonneg (most+1) hy
  have h5:=Int.tmod_lt_of_pos y (b:=most+1) (by omega)
  have e4:IntKind.i64.wrap (y.tmod (most+1))=y.tmod (most+1):=by rw[IntKind.wrap_i64];omega
  try rw[e4]
  exact h _ _ h4 (by omega)
theorem jV(r:Nat)(lo hi:Int)(h1: -1000000000000≤lo∧lo≤1000000000000)(h2: -1000000000000≤hi∧hi≤1000000000000)(σ:List aa)(hp:dS σ r)(Q:AV→List aa→Prop)(h:∀s' x,lo≤x→x≤max lo hi→Q (.int .i64 x) (pw σ r s')):ao S 61 [.ptr r 0,.int .i64 lo,.int .i64 hi] σ Q:=by
 refine AcE (Tryz.ah (S:=S) 14 (fun _=>([],[])) fs0 aD) Tryz.RA Tryz.func61 rfl ?_
 simp -implicitDefEqProofs (maxSteps:=9^9) (disch:=omega) only[go_sem,simprocAttr]
 refine gf r _ (by omega) σ hp _ fun s' x h3 h4=>?_
 simp -implicitDefEqProofs (maxSteps:=9^9) (disch:=omega) only[go_sem,simprocAttr]
 exact h _ _ (by omega) (by omega)
theorem sY(r:Nat)(n m:Int)(h1: -1000000000000≤n∧n≤1000000000000)(h2: -1000000000000≤m∧m≤1000000000000)(σ:List aa)(hp:dS σ r)(Q:AV→List aa→Prop)(h:∀s' b,Q (.bool b) (pw σ r s')):ao S 21 [.ptr r 0,.int .i64 n,.int .i64 m] σ Q:=by
 refine AcE (Tryz.ah (S:=S) 13 (fun _=>([],[])) fs0 aD) Tryz.Rg Tryz.func21 rfl ?_
 simp -implicitDefEqProofs (maxSteps:=9^9) (disch:=omega) only[go_sem,simprocAttr]
 refine gf r _ (by omega) σ hp _ fun s' x h3 h4=>?_
 simp -implicitDefEqProofs (maxSteps:=9^9) (disch:=omega) only[go_sem,simprocAttr]
 exact⟨fun _=>h _ _,fun _=>h _ _⟩
theorem UU(r:Nat)(l:List Int)(tk:Tok)(hl:1≤l.length∧l.length≤1000)(σ:List aa)(hp:dS σ r)(Q:AV→List aa→Prop)(h:∀s' x,x∈l→Q (.int .i64 x) (pw σ r s')):ao S 39 [.ptr r 0,.list tk 1 (l.map (.int .i64))] σ Q:=by
 refine AcE (Tryz.ah (S:=S) 16 (fun _=>([],[])) fs0 aD) Tryz.Rf Tryz.func39 rfl ?_
 simp -implicitDefEqProofs (maxSteps:=9^9) (disch:=omega) only[go_sem,simprocAttr]
 refine gf r _ (by omega) σ hp _ fun s' x h3 h4=>?_
 simp -implicitDefEqProofs (maxSteps:=9^9) (disch:=omega) only[go_sem,simprocAttr,ix]
 refine h _ _ ?_
 have hx:x.toNat<l.length:=by omega
 have:tg l x=l[x.toNat]:=by simp[tg,List.getD,List.getElem?_eq_getElem hx]
 rw[this];exact List.getElem_mem hx
theorem QO(r:Nat)(n least most wide:Int)(h1:0≤least∧least≤n∧n≤most∧most≤1000000000)(h2:0≤wide∧wide≤1000000)(σ:List aa)(hp:dS σ r)(Q:AV→List aa→Prop)(h:∀s' a b,least≤a→a≤n→n≤b→b≤most→n-wide≤a→b≤n+wide→∀junk,Q (Rng.mk a b).av (pw σ r s'++junk)):ao S 122 [.ptr r 0,.int .i64 n,.int .i64 least,.int .i64 most,.int .i64 wide] σ Q:=by
 refine AcE (Tryz.ah (S:=S) 32 (fun _=>([],[])) fs0 aD) Tryz.Mo Tryz.func122 rfl ?_
 have hr:r<σ.length:=by obtain⟨s,hg⟩:=hp;exact aN hg
 have pwa:∀l s,pw (σ++l) r s=pw σ r s++l:=fun l s=>by unfold pw ax;rw[List.set_append_left _ _ hr]
 have pota:∀l s,dS (pw σ r s++l) r:=fun l s=>by
  obtain⟨u,hg⟩:=hp.pw s
  exact⟨u,by rw[aB (aN hg)];exact hg⟩
 have pwa2:∀l s t,pw (pw σ r s++l) r t=pw σ r t++l:=fun l s t=>by
  have:r<(pw σ r s).length:=by unfold pw;rw[aJ];exact hr
  show ax (pw σ r s++l) r _=_
  unfold ax;rw[List.set_append_left _ _ this]
  show pw (pw σ r s) r t++l=_
  rw[MG]
 have p0:dS (σ++[.cells [.int .i64 0,.int .i64 0]]) r:=by obtain⟨u,hg⟩:=hp;exact⟨u,by rw[aB hr];exact hg⟩
 have hof:∀(x:Int) (σ:List aa) (hp:dS σ r) (Q:AV→List aa→Prop),(∀s' y,(y=0∨y=x)→Q (.int .i64 y) (pw σ r s'))→ao S 39 [.ptr r 0,.list .full 1 [.int .i64 0,.int .i64 0,.int .i64 x]] σ Q:=fun x σ hp Q hq=>
  UU r [0,0,x] .full (by simp) σ hp Q fun s' y hy=>hq s' y (by simpa using hy)
 simp -implicitDefEqProofs (maxSteps:=9^9) (disch:=omega) only[go_sem,simprocAttr]
 refine gf r wide (by omega) _ p0 _ fun s1 x1 a1 a2=>?_
 rw[pwa]
 simp -implicitDefEqProofs (maxSteps:=9^9) (disch:=omega) only[go_sem,simprocAttr]
 refine hof x1 _ (pota _ _) _ fun s2 y1 a3=>?_
 rw[pwa2]
 have b1:0≤y1∧y1≤wide:=by omega
 simp -implicitDefEqProofs (maxSteps:=9^9) (disch:=omega) only[go_sem,simprocAttr]
 refine gf r wide (by omega) _ (pota _ _) _ fun s3 x2 a5 a6=>?_
 rw[pwa2]
 simp -implicitDefEqProofs (maxSteps:=9^9) (disch:=omega) only[go_sem,simprocAttr]
 refine hof x2 _ (pota _ _) _ fun s4 y2 a7=>?_
 rw[pwa2]
 have b2:0≤y2∧y2≤wide:=by omega
 have hlp:(pw σ r s4).length=σ.length:=by unfold pw;exact aJ
 have g1:ai (pw σ r s4++[.cells [.int .i64 0,.int .i64 0]]) σ.length=some (.cells [.int .i64 0,.int .i64 0]):=by rw[← hlp];exact a8
 have g2:∀o,ax (pw σ r s4++[.cells [.int .i64 0,.int .i64 0]]) σ.length o=pw σ r s4++[o]:=fun o=>by rw[← hlp];exact lV
 have g3:∀o,ai (pw σ r s4++[o]) σ.length=some o:=fun o=>by rw[← hlp];exact a8
 simp -implicitDefEqProofs (maxSteps:=9^9) (disch:=omega) only[go_sem,simprocAttr,g1,g2,g3]
 refine h s4 (if least<n-y1 then n-y1 else least) (if n+y2<most then n+y2 else most) ?_ ?_ ?_ ?_ ?_ ?_ _<;> (split<;> omega)
def l6(rates by_:List Int):AV:= .agg [ar rates,ar by_]
theorem UJ(r:Ros)(rates by_:List Int)(h d:Int)(hl:r.sets.length≤1000)(hh:0≤h∧h<rates.length)(hrl:rates.length≤1000)(hd:0≤d∧d≤60)(hr:∀n∈rates, -5≤n∧n≤5):al S 69 [r.av,l6 rates by_,.int .i64 h,.int .i64 d] (.int .i64 (cS r rates h d)):=by
 refine PvE (Tryz.ah (S:=S) 53 (fun _=>([],[])) fs0 aD) (.int) Tryz.Qr Tryz.func69 rfl ?_
 intro σ
 obtain⟨hands,skill,mn,mx,sets,ents⟩:=r
 simp only[Ros.av,l6,ar] at hl⊢
 simp -implicitDefEqProofs (maxSteps:=9^9) (disch:=omega) only[go_sem,simprocAttr]
 refine aj.bE (Tryz.ah (S:=S) 53 (fun _=>([],[])) fs0 aD) sets.length (fun _=>True) (fun i=>[(9,.int .i64 ((sets.take i).foldl (dt h d) 0)),(10,.int .i64 i)]) (fun _ _=>σ++[.cells [.int .i64 hands,.int .i64 skill,.int .i64 mn,.int .i64 mx,.list .no 2 (sets.map Sg.av),.list .no 6 (ents.map Tn.av)],.cells [.list .no 1 (rates.map (.int .i64)),.list .no 1 (by_.map (.int .i64))]]) [] (by kernel_rfl) rfl (by simp[upd,ins,aw,ae]) trivial ?_ ?_
 ·intro i j hi _ ih
  rw[jo hi] at ih
  have hidx:idx (sets.map Sg.av) (i:Int)=some (Sg.av sets[i]):=bu hi
  generalize (sets.take i).foldl (dt h d) 0=m at *
  generalize sets[i]=s at hidx ih
  simp only[Sg.av] at hidx
  simp -implicitDefEqProofs (maxSteps:=9^9) (disch:=omega) only[go_sem,simprocAttr,hidx]
  refine⟨fun p1=>⟨fun p2=>?_,fun p2=>?_⟩,fun p1=>?_⟩
  ·exact(ih trivial []).ay rfl (by simp[upd,ins,aw,ae,dt,p1,p2])
  ·exact(ih trivial []).ay rfl (by simp[upd,ins,aw,ae,dt,p1,p2])
  ·exact(ih trivial []).ay rfl (by simp[upd,ins,aw,ae,dt,p1])
 ·intro j _
  rw[List.take_length]
  have hfi:=@jU sets h d hd.1
  have hfe:sets.foldl (dt h d) 0=cn sets h d:=rfl
  rw[hfe]
  have hrt: -5≤tg rates h∧tg rates h≤5:=by
   have hlt:h.toNat<rates.length:=by omega
   have:tg rates h=rates[h.toNat]:=by simp[tg,List.getD_eq_getElem?_getD,hlt]
   rw[this];exact hr _ (List.getElem_mem hlt)
  have hoo:cS ⟨hands,skill,mn,mx,sets,ents⟩ rates h d=tg rates h*(d-cn sets h d):=rfl
  rw[hoo]
  have hw1:IntKind.i64.wrap (d-cn sets h d)=d-cn sets h d:=wrap64 (by omega) (by omega)
  have hw2:IntKind.i64.wrap (tg rates h*(d-cn sets h d))=tg rates h*(d-cn sets h d):=by
   generalize tg rates h=a at hrt
   have h3:0≤d-cn sets h d∧d-cn sets h d≤60:=by omega
   generalize d-cn sets h d=b at h3
   have: -300≤a*b∧a*b≤300:=by
    rcases(by omega:a= -5∨a= -4∨a= -3∨a= -2∨a= -1∨a=0∨a=1∨a=2∨a=3∨a=4∨a=5) with rfl | rfl | rfl | rfl | rfl | rfl | rfl | rfl | rfl | rfl | rfl<;> omega
   exact wrap64 (by omega) (by omega)
  have hidx:idx (rates.map (AV.int .i64)) h=some (.int .i64 (tg rates h)):=ix hh.1 hh.2
  have hmi:=@E3 rates h hh.1 hh.2
  simp -implicitDefEqProofs (maxSteps:=9^9) (disch:=omega) only[go_sem,simprocAttr,hw1,hw2,hidx,hmi]
theorem aK{σ:List aa}{r:Nat}{s:Int}:(pw σ r s).length=σ.length:=aJ
theorem bd{σ l:List aa}{r:Nat}{s:Int}:ai (pw σ r s++l) σ.length=l[0]? :=by rw[← aK (σ:=σ) (r:=r) (s:=s)];exact a8
theorem ba{σ l:List aa}{r k:Nat}{s:Int}:ai (pw σ r s++l) (σ.length+k)=l[k]? :=by rw[← aK (σ:=σ) (r:=r) (s:=s)];exact aZ
theorem bc{σ l:List aa}{r:Nat}{s:Int}{o:aa}:ax (pw σ r s++l) σ.length o=pw σ r s++l.set 0 o:=by rw[← aK (σ:=σ) (r:=r) (s:=s)];exact lV
theorem aX{σ l:List aa}{r k:Nat}{s:Int}{o:aa}:ax (pw σ r s++l) (σ.length+k) o=pw σ r s++l.set k o:=by rw[← aK (σ:=σ) (r:=r) (s:=s)];exact fI
theorem u0{σ l:List aa}{r:Nat}{s:Int}(hr:r<σ.length):pw (σ++l) r s=pw σ r s++l:=by unfold pw ax;rw[List.set_append_left _ _ hr]
theorem dj{σ l:List aa}{r:Nat}{s t:Int}(hr:r<σ.length):pw (pw σ r s++l) r t=pw σ r t++l:=by
 rw[u0 (by rw[aK];exact hr),MG]
theorem dS.app1{σ l:List aa}{r:Nat}(h:dS σ r):dS (σ++l) r:=by obtain⟨s,hg⟩:=h;exact⟨s,by rw[aB (aN hg)];exact hg⟩
theorem dS.lt1{σ:List aa}{r:Nat}(h:dS σ r):r<σ.length:=by obtain⟨s,hg⟩:=h;exact aN hg
structure mh(r:Ros)(rates:List Int)(w:Int)(x:Tn)(by_:Int):Prop where
 by_in:0≤by_∧by_<r.hands
 day:0≤x.day∧x.day≤12
 hand:x.hand=by_∨x.hand= -1
 due:500≤x.due∧x.due≤2000
 ear:∃t lo hi rds,(-r.skill≤t- (x.due+cS r rates by_ x.day)∧t- (x.due+cS r rates by_ x.day)≤r.skill)∧(1≤lo∧lo≤t∧t≤hi∧hi≤100000∧hi-lo≤2*w)∧(rds=[]∨rds=[⟨1,0,0,20,⟨t/5,t/5⟩⟩])∧x.ear=⟨0,[⟨lo,hi⟩],rds⟩
theorem H7(p:Nat)(r:Ros)(rates by_:List Int)(w:Int)(hw:0≤w∧w≤10)(hh:1≤r.hands∧r.hands≤4)(hs:0≤r.skill∧r.skill≤3)(hrl:(rates.length:Int)=r.hands)(hr:∀n∈rates, -3≤n∧n≤3)(hsl:r.sets.length≤1000)
  (σ:List aa) (hp:dS σ p) (Q:AV→List aa→Prop) (h:∀s' x b junk,mh r rates w x b→Q (.tup [x.av,.int .i64 b]) (pw σ p s'++junk)) :
  ao S 64 [.ptr p 0,r.av,l6 rates by_,.int .i64 w] σ Q:=by
 refine ao.wkW ?_
 refine AcE (Tryz.ah (S:=S) 65 Tryz.L5 fs0 aD) Tryz.Rl Tryz.func64 rfl ?_
 have hpl:=hp.lt1
 simp only[Ros.av,l6,ar]
 have hwh:IntKind.i64.wrap (r.hands-1)=r.hands-1:=wrap64 (by omega) (by omega)
 simp -implicitDefEqProofs (maxSteps:=9^9) (disch:=omega) only[go_sem,simprocAttr,hwh]
 refine gf p (r.hands-1) (by omega) _ hp.app1 _ fun s1 b b1 b2=>?_
 rw[u0 hpl]
 have hb:0≤b∧b<r.hands:=by omega
 clear b1 b2
 simp -implicitDefEqProofs (maxSteps:=9^9) (disch:=omega) only[go_sem,simprocAttr,aK,bd,ba,bc,aX]
 refine gf p 12 (by omega) _ (hp.pw _).app1 _ fun s2 dy d1 d2=>?_
 rw[dj hpl]
 have hdy:0≤dy∧dy≤12:=by omega
 clear d1 d2
 simp -implicitDefEqProofs (maxSteps:=9^9) (disch:=omega) only[go_sem,simprocAttr,aK,bd,ba,bc,aX]
 refine jV p 500 2000 (by omega) (by omega) _ (hp.pw _).app1 _ fun s3 due e1 e2=>?_
 rw[dj hpl]
 have iO:500≤due∧due≤2000:=by omega
 clear e1 e2
 simp -implicitDefEqProofs (maxSteps:=9^9) (disch:=omega) only[go_sem,simprocAttr,aK,bd,ba,bc,aX]
 have hoff: -36≤cS r rates b dy∧cS r rates b dy≤36:=by
  have h1:=@jU r.sets b dy hdy.1
  have h2: -3≤tg rates b∧tg rates b≤3:=by
   have hlt:b.toNat<rates.length:=by omega
   have:tg rates b=rates[b.toNat]:=by simp[tg,List.getD_eq_getElem?_getD,hlt]
   rw[this];exact hr _ (List.getElem_mem hlt)
  unfold cS
  generalize tg rates b=a at h2
  have h3:0≤dy-cn r.sets b dy∧dy-cn r.sets b dy≤12:=by omega
  generalize dy-cn r.sets b dy=c at h3
  rcases(by omega:a= -3∨a= -2∨a= -1∨a=0∨a=1∨a=2∨a=3) with rfl | rfl | rfl | rfl | rfl | rfl | rfl<;> omega
 refine UJ r rates by_ b dy hsl ⟨hb.1,by omega⟩ (by omega) ⟨by omega,by omega⟩ (fun n hn=>by have:=hr n hn;omega) _ _ ?_
 obtain⟨of,hof⟩:∃of,of=cS r rates b dy:=⟨_,rfl⟩
 rw[← hof] at hoff⊢
 have hwn:IntKind.i64.wrap (0-r.skill)= -r.skill:=by rw[wrap64 (by omega) (by omega)];omega
 simp -implicitDefEqProofs (maxSteps:=9^9) (disch:=omega) only[go_sem,simprocAttr,aK,bd,ba,bc,aX,hwn]
 refine jV p (0-r.skill) r.skill (by omega) (by omega) _ (hp.pw _).app1 _ fun s4 er f1 f2=>?_
 rw[dj hpl]
 have her: -r.skill≤er∧er≤r.skill:=by omega
 clear f1 f2
 have hwt:IntKind.i64.wrap (due+of+er)=due+of+er:=wrap64 (by omega) (by omega)
 have hwt1:IntKind.i64.wrap (due+of)=due+of:=wrap64 (by omega) (by omega)
 simp -implicitDefEqProofs (maxSteps:=9^9) (disch:=omega) only[go_sem,simprocAttr,aK,bd,ba,bc,aX,hwt,hwt1]
 refine QO p (due+of+er) 1 100000 w (by omega) (by omega) _ (hp.pw _).app1 _ fun s5 lo hi c1 c2 c3 c4 c5 c6 junk=>?_
 rw[dj hpl,List.append_assoc]
 have hq5:Int.tdiv (due+of+er) 5=(due+of+er)/5:=Int.tdiv_eq_ediv_of_nonneg (by omega)
 have hwq:IntKind.i64.wrap ((due+of+er)/5)=(due+of+er)/5:=wrap64 (by omega) (by omega)
 have hT:∀rds hd,(rds=[]∨rds=[⟨1,0,0,20,⟨(due+of+er)/5,(due+of+er)/5⟩⟩])→(hd=b∨hd= -1)→mh r rates w ⟨dy,hd,due,⟨0,[⟨lo,hi⟩],rds⟩⟩ b:=fun rds hd g1 g2=>
  ⟨hb,hdy,g2,iO,due+of+er,lo,hi,rds,(show -r.skill≤due+of+er- (due+cS r rates b dy)∧due+of+er- (due+cS r rates b dy)≤r.skill by rw[← hof];omega),by omega,g1,rfl⟩
 simp only[Rng.av]
 simp -implicitDefEqProofs (maxSteps:=9^9) (disch:=omega) only[go_sem,simprocAttr,aK,bd,ba,bc,aX]
 refine sY p 1 4 (by omega) (by omega) _ (hp.pw _).app1 _ fun s6 q1=>?_
 rw[dj hpl]
 cases q1
 ·simp -implicitDefEqProofs (maxSteps:=9^9) (disch:=omega) only[go_sem,simprocAttr,aK,bd,ba,bc,aX]
  refine sY p 1 2 (by omega) (by omega) _ (hp.pw _).app1 _ fun s7 q2=>?_
  rw[dj hpl]
  cases q2
  ·simp -implicitDefEqProofs (maxSteps:=9^9) (disch:=omega) only[go_sem,simprocAttr,aK,bd,ba,bc,aX]
   exact⟨_,gp (by simp[wk,wkL,wk1,wk0,Tn.av,Tn.cells,Rng.av]),h _ _ _ _ (hT [] b (.inl rfl) (.inl rfl))⟩
  ·simp -implicitDefEqProofs (maxSteps:=9^9) (disch:=omega) only[go_sem,simprocAttr,aK,bd,ba,bc,aX]
   exact⟨_,gp (by simp[wk,wkL,wk1,wk0,Tn.av,Tn.cells,Rng.av]),h _ _ _ _ (hT [] (-1) (.inl rfl) (.inr rfl))⟩
 ·simp -implicitDefEqProofs (maxSteps:=9^9) (disch:=omega) only[go_sem,simprocAttr,aK,bd,ba,bc,aX,hq5,hwq]
  refine sY p 1 2 (by omega) (by omega) _ (hp.pw _).app1 _ fun s7 q2=>?_
  rw[dj hpl]
  cases q2
  ·simp -implicitDefEqProofs (maxSteps:=9^9) (disch:=omega) only[go_sem,simprocAttr,aK,bd,ba,bc,aX]
   exact⟨_,gp (by simp[wk,wkL,wk1,wk0,Tn.av,Tn.cells,Rng.av,Rd.av]),h _ _ _ _ (hT _ b (.inr rfl) (.inl rfl))⟩
  ·simp -implicitDefEqProofs (maxSteps:=9^9) (disch:=omega) only[go_sem,simprocAttr,aK,bd,ba,bc,aX]
   exact⟨_,gp (by simp[wk,wkL,wk1,wk0,Tn.av,Tn.cells,Rng.av,Rd.av]),h _ _ _ _ (hT _ (-1) (.inr rfl) (.inr rfl))⟩
end Go.Proofs
