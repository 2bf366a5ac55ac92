/- Plain data of the meter's layer. -/
import Derived.Test.YtgbdndlmdklefaaGreatGK10
set_option linter.unusedVariables false
set_option linter.unusedSimpArgs false
set_option maxRecDepth 100000
namespace Go.Proofs
open Go Go.Mu
structure Rng where
 lo:Int
 hi:Int
 deriving DecidableEq,Inhabited
structure Rd where
 kind:Int
 a:Int
 b:Int
 sec:Int
 shown:Rng
 deriving DecidableEq,Inhabited
structure Ear where
 slack:Int
 tones:List Rng
 rds:List Rd
 deriving DecidableEq,Inhabited
def Rng.av(x:Rng):AV:= .agg [.int .i64 x.lo,.int .i64 x.hi]
def Rd.av(x:Rd):AV:= .agg [.int .i64 x.kind,.int .i64 x.a,.int .i64 x.b,.int .i64 x.sec,.int .i64 x.shown.lo,.int .i64 x.shown.hi]
def Ear.av(e:Ear):AV:= .agg [.int .i64 e.slack,.list .no 2 (e.tones.map Rng.av),.list .no 6 (e.rds.map Rd.av)]
def tav(t:List Int):AV:= .agg (t.map (AV.int .i64))
def tavs(l:List (List Int)):AV:= .list .no 3 (l.map tav)
def decRng:AV→Option Rng
 | .agg [.int .i64 a,.int .i64 b]=>some ⟨a,b⟩
 | _=>none
theorem decRng_inv(a:AV)(x:Rng)(h:decRng a=some x):a=x.av:=by
 unfold decRng at h;split at h
 ·simp at h;subst h;rfl
 ·cases h
theorem decRng_av(x:Rng):decRng x.av=some x:=rfl
def decRd:AV→Option Rd
 | .agg [.int .i64 k,.int .i64 a,.int .i64 b,.int .i64 s,.int .i64 x,.int .i64 y]=>some ⟨k,a,b,s,⟨x,y⟩⟩
 | _=>none
theorem decRd_inv(a:AV)(x:Rd)(h:decRd a=some x):a=x.av:=by
 unfold decRd at h;split at h
 ·simp at h;subst h;rfl
 ·cases h
theorem decRd_av(x:Rd):decRd x.av=some x:=rfl
def decEar:AV→Option Ear
 | .agg [.int .i64 s,a,b]=>(decL 2 decRng a).bind fun x=>(decL 6 decRd b).bind fun y=>some ⟨s,x,y⟩
 | _=>none
theorem decEar_inv(a:AV)(x:Ear)(h:decEar a=some x):wk a x.av:=by
 unfold decEar at h;split at h
 ·obtain⟨u,h1,h⟩:=Option.bind_eq_some_iff.1 h
  obtain⟨w,h2,h⟩:=Option.bind_eq_some_iff.1 h
  simp at h;subst h
  exact⟨rfl,decL_inv decRng_inv h1,decL_inv decRd_inv h2,trivial⟩
 ·cases h
def decT:AV→Option (List Int)
 | .agg cs=>decs decI cs
 | _=>none
theorem decT_inv(a:AV)(x:List Int)(h:decT a=some x):a=tav x:=by
 unfold decT at h;split at h
 ·rw[decs_inv decI_inv h];rfl
 ·cases h
theorem decs_ints{l:List Int}:decs decI (l.map (.int .i64))=some l:=decs_map (f:=AV.int .i64) (fun _=>rfl) l
theorem decT_agg(x:List Int):decT (.agg (x.map (.int .i64)))=some x:=decs_ints
def tRng:Ty Rng:=⟨decRng,Rng.av,fun{a x} h=>by rw[decRng_inv a x h];exact⟨rfl,rfl,trivial⟩⟩
def tRd:Ty Rd:=⟨decRd,Rd.av,fun{a x} h=>by rw[decRd_inv a x h];exact⟨rfl,rfl,rfl,rfl,rfl,rfl,trivial⟩⟩
def tEar:Ty Ear:=⟨decEar,Ear.av,fun{a x} h=>decEar_inv a x h⟩
theorem wkL_ints:∀l:List Int,wkL wk0 (l.map (AV.int .i64)) (l.map (AV.int .i64))
 | []=>trivial
 | _::l=>⟨rfl,wkL_ints l⟩
def tT:Ty (List Int):=⟨decT,tav,fun{a x} h=>by rw[decT_inv a x h];exact wkL_ints x⟩
theorem decL_rng{t:Tok}{l:List Rng}:decL 2 decRng (.list t 2 (l.map Rng.av))=some l:=decL_self decRng_av
theorem decL_rd{t:Tok}{l:List Rd}:decL 6 decRd (.list t 6 (l.map Rd.av))=some l:=decL_self decRd_av
theorem tRng_dec{a:AV}:tRng.dec a=decRng a:=rfl
theorem tRd_dec{a:AV}:tRd.dec a=decRd a:=rfl
theorem tEar_dec{a:AV}:tEar.dec a=decEar a:=rfl
theorem tT_dec{a:AV}:tT.dec a=decT a:=rfl
theorem Rng.plain(x:Rng):Plain x.av:= .agg (by simp;exact⟨.int,.int⟩)
theorem Rd.plain(x:Rd):Plain x.av:= .agg (by simp;exact⟨.int,.int,.int,.int,.int,.int⟩)
theorem tav_plain(x:List Int):Plain (tav x):= .agg fun c hc=>by
 obtain⟨n,_,rfl⟩:=List.mem_map.1 hc;exact .int
theorem tavs_plain(x:List (List Int)):Plain (tavs x):= .map fun t _=>tav_plain t
def dist(x y:Int):Int:=max (x-y) (y-x)
def isR(r:Rd)(sl:Int)(t:List Int):Bool:=
 if r.kind=1 then decide (100*(r.shown.lo-1-sl)<tg t r.a*r.sec∧tg t r.a*r.sec<100*(r.shown.hi+1+sl))
 else if r.kind=2 then decide (100*r.shown.lo≤dist (tg t r.a) (tg t r.b)*r.sec∧dist (tg t r.a) (tg t r.b)*r.sec≤100*r.shown.hi)
 else decide (tg t r.b<tg t r.a)
theorem Rng_eta(r:Rng):(⟨r.lo,r.hi⟩: Rng)=r:=rfl
theorem Rd_eta(r:Rd):(⟨r.kind,r.a,r.b,r.sec,⟨r.shown.lo,r.shown.hi⟩⟩: Rd)=r:=rfl
theorem Rd_eta'(r:Rd):(⟨r.kind,r.a,r.b,r.sec,r.shown⟩: Rd)=r:=rfl
def small(t:List Int):Prop:=∀x∈t,0≤x∧x≤1000000
instance (t:List Int):Decidable (small t):=by unfold small;infer_instance
def okR(r:Rd):Prop:=(1≤r.kind∧r.kind≤3)∧(0≤r.a∧r.a≤2)∧(0≤r.b∧r.b≤2)∧(0≤r.sec∧r.sec≤20)∧(0≤r.shown.lo∧r.shown.lo≤100000)∧(0≤r.shown.hi∧r.shown.hi≤100000)
instance (r:Rd):Decidable (okR r):=by unfold okR;infer_instance
theorem small_tg{t:List Int}(h:small t)(i:Int):0≤tg t i∧tg t i≤1000000:=by
 unfold tg List.getD
 cases hx:t[i.toNat]? with
 | none=>simp
 | some x=>simpa using h x (List.mem_of_getElem? hx)
def ckR(r:Rd)(m:Int):Int:=
 if¬(1≤r.kind∧r.kind≤3) then 8
 else if¬(0≤r.a∧r.a≤m-1) then 3
 else if r.kind=1∧r.b≠0 then 1
 else if r.kind≠1∧¬(0≤r.b∧r.b≤m-1) then 3
 else if r.kind≠1∧r.b=r.a then 4
 else if¬((if r.kind=3 then 0 else 1)≤r.sec∧r.sec≤(if r.kind=3 then 0 else 20)) then 1
 else if¬(0≤r.shown.lo∧r.shown.lo≤(if r.kind=3 then 0 else 25000)) then 1
 else if¬(0≤r.shown.hi∧r.shown.hi≤(if r.kind=3 then 0 else 25000)) then 1
 else if r.shown.lo>r.shown.hi then 5
 else 0
def ckT(x:Rng):Int:=
 if¬(1≤x.lo∧x.lo≤100000) then 1
 else if¬(1≤x.hi∧x.hi≤100000) then 1
 else if x.lo>x.hi then 5
 else if x.hi-x.lo>20 then 1
 else 0
def firstE{α:Type}(f:α→Int):List α→Int
 | []=>0
 | x::l=>if f x=0 then firstE f l else f x
def ck(e:Ear):Int:=
 if¬(0≤e.slack∧e.slack≤3) then 1
 else if e.tones.length=0 then 7
 else if e.tones.length>3 then 6
 else if firstE ckT e.tones≠0 then firstE ckT e.tones
 else if e.rds.length>6 then 6
 else firstE (fun r=>ckR r e.tones.length) e.rds
def allT(e:Ear):Nat→List Int→Nat→List (List Int)
 | 0,t,_=>if e.rds.all (fun r=>isR r e.slack t) then[t] else[]
 | m+1,t,a=>(List.range ((e.tones.getD a default).hi- (e.tones.getD a default).lo+1).toNat).flatMap fun(k:Nat)=>allT e m (setI t a ((e.tones.getD a default).lo+k)) (a+1)
structure OkE(e:Ear):Prop where
 len:e.tones.length≤3
 tone:∀x∈e.tones,1≤x.lo∧x.lo≤x.hi∧x.hi≤100000∧x.hi-x.lo≤20
 rd:∀r∈e.rds,okR r
 rl:e.rds.length≤4294967296
 sl:0≤e.slack∧e.slack≤3
theorem flatMap_part{α:Type}(f:Nat→List α){i n:Nat}(h:i<n):∃X,(List.range n).flatMap f=(List.range i).flatMap f++(f i++X):=by
 induction n with
 | zero=>omega
 | succ n ih=>
  rw[List.range_succ,List.flatMap_append]
  by_cases e:i=n
  ·subst e;exact⟨[],by simp⟩
  ·obtain⟨X,hX⟩:=ih (by omega)
   exact⟨X++f n,by rw[hX];simp⟩
theorem flatMap_succ{α:Type}(f:Nat→List α)(n:Nat):(List.range (n+1)).flatMap f=(List.range n).flatMap f++f n:=by
 rw[List.range_succ,List.flatMap_append];simp
theorem setI_setI{t:List Int}{i x y:Int}:setI (setI t i x) i y=setI t i y:=by simp[setI]
theorem setI_len{t:List Int}{i x:Int}:(setI t i x).length=t.length:=by simp[setI]
theorem setI_small{t:List Int}{i x:Int}(h:small t)(hx:0≤x∧x≤1000000):small (setI t i x):=by
 intro y hy
 rcases List.mem_or_eq_of_mem_set hy with h1 | h1
 ·exact h y h1
 ·rw[h1];exact hx
/-! Plain data and functions of the reeds' layer. -/
structure Jb where
 pitch:Rng
 tip:Rng
 root:Rng
 up:Rng
 down:Rng
 wt:Rng
 wr:Rng
 least:Int
 shifts:List Rng
 within:Int
 meter:Int
 deriving DecidableEq,Inhabited
def Jb.file(j:Jb):List AV:=[.int .i64 j.up.lo,.int .i64 j.up.hi,.int .i64 j.down.lo,.int .i64 j.down.hi,.int .i64 j.wt.lo,.int .i64 j.wt.hi,.int .i64 j.wr.lo,.int .i64 j.wr.hi,.int .i64 j.least]
def Jb.cells(j:Jb):List AV:=[.int .i64 j.pitch.lo,.int .i64 j.pitch.hi,.int .i64 j.tip.lo,.int .i64 j.tip.hi,.int .i64 j.root.lo,.int .i64 j.root.hi,.int .i64 j.up.lo,.int .i64 j.up.hi,.int .i64 j.down.lo,.int .i64 j.down.hi,.int .i64 j.wt.lo,.int .i64 j.wt.hi,.int .i64 j.wr.lo,.int .i64 j.wr.hi,.int .i64 j.least,.list .no 2 (j.shifts.map Rng.av),.int .i64 j.within,.int .i64 j.meter]
def Jb.av(j:Jb):AV:= .agg j.cells
def okB(lo hi:Int)(x:Rng):Prop:=lo≤x.lo∧x.lo≤x.hi∧x.hi≤hi
instance (lo hi:Int)(x:Rng):Decidable (okB lo hi x):=by unfold okB;infer_instance
structure OkJ(j:Jb):Prop where
 pitch:okB (-60) 60 j.pitch
 tip:okB 0 100 j.tip
 root:okB 0 100 j.root
 up:okB 0 12 j.up
 down:okB 0 12 j.down
 wt:okB 0 12 j.wt
 wr:okB 0 12 j.wr
 least:0≤j.least∧j.least≤100
 len:j.shifts.length≤4
 shifts:∀x∈j.shifts,okB (-60) 60 x
 within:0≤j.within∧j.within≤60
 meter:0≤j.meter∧j.meter≤6
instance (j:Jb):Decidable (OkJ j):=
 decidable_of_iff (okB (-60) 60 j.pitch∧okB 0 100 j.tip∧okB 0 100 j.root∧okB 0 12 j.up∧okB 0 12 j.down∧okB 0 12 j.wt∧okB 0 12 j.wr∧(0≤j.least∧j.least≤100)∧j.shifts.length≤4∧(∀x∈j.shifts,okB (-60) 60 x)∧(0≤j.within∧j.within≤60)∧(0≤j.meter∧j.meter≤6))
  ⟨fun⟨a,b,c,d,e,f,g,h,i,k,l,m⟩=>⟨a,b,c,d,e,f,g,h,i,k,l,m⟩,fun⟨a,b,c,d,e,f,g,h,i,k,l,m⟩=>⟨a,b,c,d,e,f,g,h,i,k,l,m⟩⟩
def meet2(a b:Rng):Rng:=⟨max a.lo b.lo,min a.hi b.hi⟩
def meetL(f:Rng)(l:List Rng):Rng:=l.foldl meet2 f
def hasR(x y:Rng):Bool:=decide (x.lo≤y.lo∧y.hi≤x.hi)
def plusR(x y:Rng):Rng:=⟨x.lo+y.lo,x.hi+y.hi⟩
def lessR(x y:Rng):Rng:=⟨x.lo-y.hi,x.hi-y.lo⟩
def strictR(w:Int)(s:Rng):Rng:=⟨0-w-s.lo,w-s.hi⟩
def looseR(w:Int)(s:Rng):Rng:=⟨0-w-s.hi,w-s.lo⟩
def meetAll(w:Int):List Rng→Rng
 | []=>⟨0-w,w⟩
 | s::l=>meetL s l
def winS(j:Jb):Rng:=meetAll j.within (j.shifts.map (strictR j.within))
def mayS(j:Jb):Rng:=meetAll j.within (j.shifts.map (looseR j.within))
def passS(j:Jb)(p:Rng):Int:=if hasR (winS j) p then 1 else if(meet2 (mayS j) p).hi<(meet2 (mayS j) p).lo then 2 else 3
def rdL(p:Rng)(m:Int):List Rng:=(List.range (p.hi+m- (p.lo-m)+1).toNat).map fun(i:Nat)=>meet2 p ⟨p.lo-m+(i:Int)-m,p.lo-m+(i:Int)+m⟩
def wearL(x w:Rng):Nat→Rng
 | 0=>x
 | n+1=>lessR (wearL x w n) w
def spoilS(tip root:Rng)(least:Int):Int:=if tip.hi<least∨root.hi<least then 1 else if least≤tip.lo∧least≤root.lo then 2 else 3
def okS(j:Jb)(t r:Nat):Bool:=spoilS (wearL j.tip j.wt t) (wearL j.root j.wr r) j.least==2
def stopsL(j:Jb):Nat→Rng→Nat→Nat→Bool
 | 0,p,_,_=>hasR (winS j) p
 | n+1,p,t,r=>hasR (winS j) p||(okS j (t+1) r&&(rdL (plusR p j.up) j.meter).all fun x=>stopsL j n x (t+1) r)||(okS j t (r+1)&&(rdL (lessR p j.down) j.meter).all fun x=>stopsL j n x t (r+1))
def strokeL(j:Jb):Nat→Rng→Nat→Nat→Int
 | 0,_,_,_=>0
 | n+1,p,t,r=>if okS j (t+1) r&&(rdL (plusR p j.up) j.meter).all fun x=>stopsL j n x (t+1) r then 1
  else if okS j t (r+1)&&(rdL (lessR p j.down) j.meter).all fun x=>stopsL j n x t (r+1) then 2 else 0
theorem stopsL_stroke(j:Jb)(n:Nat)(p:Rng)(t r:Nat):stopsL j n p t r=(hasR (winS j) p||decide (0<strokeL j n p t r)):=by
 cases n with
 | zero=>simp[stopsL,strokeL]
 | succ n=>
  simp only[stopsL,strokeL]
  split
  ·rename_i h;rw[h];simp
  ·rename_i h
   have h':=Bool.eq_false_iff.2 h
   rw[h']
   split
   ·rename_i h2;rw[h2];simp
   ·rename_i h2;rw[Bool.eq_false_iff.2 h2];simp
def jfewL(f:Nat→Bool):Option Nat:=(List.range 5).find? f
def guidedS(j:Jb):Option Nat:=jfewL fun n=>(rdL j.pitch j.meter).all fun x=>stopsL j n x 0 0
def nextS(j:Jb):Option Nat:=jfewL fun n=>stopsL j n j.pitch 0 0
theorem mem_rdL{p:Rng}{m:Int}{x:Rng}:x∈rdL p m↔∃n:Int,p.lo-m≤n∧n≤p.hi+m∧x=meet2 p ⟨n-m,n+m⟩:=by
 unfold rdL
 rw[List.mem_map]
 constructor
 ·rintro⟨i,hi,rfl⟩
  rw[List.mem_range] at hi
  exact⟨p.lo-m+i,by omega,by omega,rfl⟩
 ·rintro⟨n,h1,h2,rfl⟩
  refine⟨(n- (p.lo-m)).toNat,?_,?_⟩
  ·rw[List.mem_range];omega
  ·have:p.lo-m+((n- (p.lo-m)).toNat:Int)=n:=by omega
   rw[this]
end Go.Proofs
