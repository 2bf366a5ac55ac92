/- What a roster and an entry of this seat read as. -/
import Derived.Test.YtgbdndlmdklefaaGreatHK44
import Derived.Test.YtgbdndlmdklefaaGreatHK45
import Derived.Test.YtgbdndlmdklefaaGreatHK22
import Derived.Test.YtgbdndlmdklefaaGreatHK11
set_option linter.unusedVariables false
set_option maxRecDepth 100000
namespace Go.Proofs.YtgbdndlmdklefaaGreat
open Go.ChangeShapes Go.WideShapes Go.ChangeAt Go.RowKit Go.Mu
variable {H:Type}
theorem rp(enc:TypeId×Value→H)(W:World):gn H enc Tryz.prog W 3:=AM (by kernel_rfl) (by kernel_rfl)
theorem yo(enc:TypeId×Value→H)(W:World):gn H enc Tryz.prog W 26:=nH (by kernel_rfl) (fun f hf=>by
 have h:((fieldsOf Tryz.prog 26).toList.all fun f=>f.type==3)=true:=by kernel_rfl
 have:=List.all_eq_true.1 h f hf
 rw[beq_iff_eq.1 this];exact rp enc W) (by kernel_rfl)
theorem OH(enc:TypeId×Value→H)(W:World):gn H enc Tryz.prog W 105:=nH (by kernel_rfl) (fun f hf=>by
 have h:((fieldsOf Tryz.prog 105).toList.all fun f=>f.type==3||f.type==26)=true:=by kernel_rfl
 have:=List.all_eq_true.1 h f hf
 rw[Bool.or_eq_true,beq_iff_eq,beq_iff_eq] at this
 rcases this with e | e
 ·rw[e];exact rp enc W
 ·rw[e];exact yo enc W) (by kernel_rfl)
theorem wq(enc:TypeId×Value→H)(W:World):bf H enc Tryz.prog W 26 (fun x:Rng=>[AV.int .i64 x.lo,AV.int .i64 x.hi]) (fun _ _=>True):=
 (lA (yo enc W) (m:=2) (by kernel_rfl)).mono fun l _ hl=>by
  match l,hl with
  | [a,b],_=>exact⟨⟨a,b⟩,rfl,trivial⟩
theorem LQ(enc:TypeId×Value→H)(W:World):bf H enc Tryz.prog W 105 (fun x:Rd=>[AV.int .i64 x.kind,.int .i64 x.a,.int .i64 x.b,.int .i64 x.sec,.int .i64 x.shown.lo,.int .i64 x.shown.hi]) (fun _ _=>True):=
 (lA (OH enc W) (m:=6) (by kernel_rfl)).mono fun l _ hl=>by
  match l,hl with
  | [a,b,c,d,e,f],_=>exact⟨⟨a,b,c,d,⟨e,f⟩⟩,rfl,trivial⟩
theorem CC(enc:TypeId×Value→H)(W:World):bf H enc Tryz.prog W 46 (fun l:List Rng=>[AV.list .no 2 (l.map Rng.av)]) oT:=
 iG (g:=Rng.av) (D:=fun _ _=>True) (e:=26) (by kernel_rfl) (by kernel_rfl) (by decide) (wq enc W)
theorem Iy(enc:TypeId×Value→H)(W:World):bf H enc Tryz.prog W 47 (fun l:List Rd=>[AV.list .no 6 (l.map Rd.av)]) oT:=
 iG (g:=Rd.av) (D:=fun _ _=>True) (e:=105) (by kernel_rfl) (by kernel_rfl) (by decide) (LQ enc W)
theorem jd(enc:TypeId×Value→H)(W:World):bf H enc Tryz.prog W 3 (fun n:Int=>[AV.int .i64 n]) (fun n d=>d= .lit (.int .i64 n)∧(Lit.int .i64 n).wf=true):=rf (by kernel_rfl)
theorem GJ(enc:TypeId×Value→H)(W:World):bf H enc Tryz.prog W 49 (fun e:Ear=>[AV.int .i64 e.slack,.list .no 2 (e.tones.map Rng.av),.list .no 6 (e.rds.map Rd.av)]) (fun e d=>e.tones.length≤Rows.uptoBulk d∧e.rds.length≤Rows.uptoBulk d):=
 (wW (c0:=1) (c1:=1) (c2:=1) (by kernel_rfl) (by kernel_rfl) (by kernel_rfl) (by kernel_rfl) (by kernel_rfl) (by kernel_rfl) (jd enc W) (CC enc W) (Iy enc W)).mono fun p d hd=>by
  obtain⟨d0,d1,d2,rfl,_,h1,h2⟩:=hd
  have b1:=my h1
  have b2:=my h2
  have q1:=eX (d:=d1) (l:=[d0,d1,d2]) (by simp)
  have q2:=eX (d:=d2) (l:=[d0,d1,d2]) (by simp)
  refine⟨⟨p.1,p.2.1,p.2.2⟩,rfl,?_⟩
  simp only[Rows.uptoBulk]
  omega
theorem Pj(enc:TypeId×Value→H)(W:World):gn H enc Tryz.prog W 67:=nH (by kernel_rfl) (fun f hf=>by
 have h:((fieldsOf Tryz.prog 67).toList.all fun f=>f.type==3)=true:=by kernel_rfl
 have:=List.all_eq_true.1 h f hf
 rw[beq_iff_eq.1 this];exact rp enc W) (by kernel_rfl)
theorem Lq(enc:TypeId×Value→H)(W:World):bf H enc Tryz.prog W 67 (fun x:Sg=>[AV.int .i64 x.hand,AV.int .i64 x.day]) (fun _ _=>True):=
 (lA (Pj enc W) (m:=2) (by kernel_rfl)).mono fun l _ hl=>by
  match l,hl with
  | [a,b],_=>exact⟨⟨a,b⟩,rfl,trivial⟩
theorem Gb(enc:TypeId×Value→H)(W:World):bf H enc Tryz.prog W 27 (fun l:List Sg=>[AV.list .no 2 (l.map Sg.av)]) oT:=
 iG (g:=Sg.av) (D:=fun _ _=>True) (e:=67) (by kernel_rfl) (by kernel_rfl) (by decide) (Lq enc W)
def px(e:Ear)(n:Nat):Prop:=e.tones.length≤n∧e.rds.length≤n
theorem zj(enc:TypeId×Value→H)(W:World):bf H enc Tryz.prog W 51 (fun x:Tn=>[AV.int .i64 x.day,.int .i64 x.hand,.int .i64 x.due,.int .i64 x.ear.slack,.list .no 2 (x.ear.tones.map Rng.av),.list .no 6 (x.ear.rds.map Rd.av)]) (fun x d=>px x.ear (Rows.uptoBulk d)):=
 (xZ (c0:=1) (c1:=1) (c2:=1) (c3:=3) (by kernel_rfl) (by kernel_rfl) (by kernel_rfl) (by kernel_rfl) (by kernel_rfl) (by kernel_rfl) (by kernel_rfl) (jd enc W) (jd enc W) (jd enc W) (GJ enc W)).mono fun p d hd=>by
  obtain⟨d0,d1,d2,d3,rfl,_,_,_,h3⟩:=hd
  have q3:=eX (d:=d3) (l:=[d0,d1,d2,d3]) (by simp)
  refine⟨⟨p.1,p.2.1,p.2.2.1,p.2.2.2⟩,rfl,?_⟩
  unfold px
  simp only[Rows.uptoBulk]
  omega
theorem Hx(enc:TypeId×Value→H)(W:World):bf H enc Tryz.prog W 28 (fun l:List Tn=>[AV.list .no 6 (l.map Tn.av)]) (fun l d=>l.length≤Rows.uptoBulk d∧∀x∈l,px x.ear (Rows.uptoBulk d)):=
 (vL (sz:=6) (g:=Tn.av) (e:=51) (by kernel_rfl) (by kernel_rfl) (by decide) (zj enc W)).mono fun l d hd=>by
  refine⟨l,rfl,?_⟩
  rcases hd with⟨rfl,rfl⟩ | ⟨els,sp,rfl,e,h⟩
  ·exact⟨Nat.zero_le _,fun x hx=>absurd hx List.not_mem_nil⟩
  ·simp only[Rows.uptoBulk]
   have hl:=xM els
   refine⟨by omega,fun x hx=>?_⟩
   obtain⟨i,hi,rfl⟩:=List.mem_iff_getElem.1 hx
   obtain⟨y,h1,h2⟩:=h i hi
   have h3:=eX (List.mem_of_getElem? h1)
   unfold px at h2⊢
   omega
theorem H0(enc:TypeId×Value→H)(W:World):bf H enc Tryz.prog W 30 (fun r:Ros=>[AV.int .i64 r.hands,.int .i64 r.skill,.int .i64 r.mn,.int .i64 r.mx,.list .no 2 (r.sets.map Sg.av),.list .no 6 (r.ents.map Tn.av)]) (fun r d=>r.sets.length≤Rows.uptoBulk d∧r.ents.length≤Rows.uptoBulk d∧∀x∈r.ents,px x.ear (Rows.uptoBulk d)):=
 (zE (c0:=1) (c1:=1) (c2:=2) (c3:=1) (c4:=1) (by kernel_rfl) (by kernel_rfl) (by kernel_rfl) (by kernel_rfl) (by kernel_rfl) (by kernel_rfl) (by kernel_rfl) (by kernel_rfl) (jd enc W) (jd enc W) (wq enc W) (Gb enc W) (Hx enc W)).mono fun p d hd=>by
  obtain⟨d0,d1,d2,d3,d4,rfl,_,_,_,h3,h4,h5⟩:=hd
  have b3:=my h3
  have q3:=eX (d:=d3) (l:=[d0,d1,d2,d3,d4]) (by simp)
  have q4:=eX (d:=d4) (l:=[d0,d1,d2,d3,d4]) (by simp)
  refine⟨⟨p.1,p.2.1,p.2.2.1.lo,p.2.2.1.hi,p.2.2.2.1,p.2.2.2.2⟩,rfl,?_⟩
  simp only[Rows.uptoBulk]
  refine⟨by omega,by omega,fun x hx=>?_⟩
  have:=h5 x hx
  unfold px at this⊢
  omega
end Go.Proofs.YtgbdndlmdklefaaGreat
