/- Plain data of the meter's layer. -/
import Derived.Test.YtgbdndlmdklefaaGreatHK10
set_option linter.unusedVariables false
namespace Go.Proofs
open Go Go.Mu
structure Rng where
 lo:Int
 hi:Int
 deriving DecidableEq,Inhabited
structure Rd where
 kind:Int
 a:Int
 b:Int
 sec:Int
 shown:Rng
 deriving DecidableEq,Inhabited
structure Ear where
 slack:Int
 tones:List Rng
 rds:List Rd
 deriving DecidableEq,Inhabited
def Rng.av(x:Rng):AV:= .agg [.int .i64 x.lo,.int .i64 x.hi]
def Rd.av(x:Rd):AV:= .agg [.int .i64 x.kind,.int .i64 x.a,.int .i64 x.b,.int .i64 x.sec,.int .i64 x.shown.lo,.int .i64 x.shown.hi]
def Ear.av(e:Ear):AV:= .agg [.int .i64 e.slack,.list .no 2 (e.tones.map Rng.av),.list .no 6 (e.rds.map Rd.av)]
def tav(t:List Int):AV:= .agg (t.map (AV.int .i64))
def eI(l:List (List Int)):AV:= .list .no 3 (l.map tav)
def gj:AV→Option Rng
 | .agg [.int .i64 a,.int .i64 b]=>some ⟨a,b⟩
 | _=>none
theorem jE(a:AV)(x:Rng)(h:gj a=some x):a=x.av:=by
 unfold gj at h;split at h
 ·simp at h;subst h;rfl
 ·cases h
theorem o8(x:Rng):gj x.av=some x:=rfl
def kl:AV→Option Rd
 | .agg [.int .i64 k,.int .i64 a,.int .i64 b,.int .i64 s,.int .i64 x,.int .i64 y]=>some ⟨k,a,b,s,⟨x,y⟩⟩
 | _=>none
theorem mf(a:AV)(x:Rd)(h:kl a=some x):a=x.av:=by
 unfold kl at h;split at h
 ·simp at h;subst h;rfl
 ·cases h
theorem lr(x:Rd):kl x.av=some x:=rfl
def pn:AV→Option Ear
 | .agg [.int .i64 s,a,b]=>(dA 2 gj a).bind fun x=>(dA 6 kl b).bind fun y=>some ⟨s,x,y⟩
 | _=>none
theorem DE(a:AV)(x:Ear)(h:pn a=some x):wk a x.av:=by
 unfold pn at h;split at h
 ·obtain⟨u,h1,h⟩:=Option.bind_eq_some_iff.1 h
  obtain⟨w,h2,h⟩:=Option.bind_eq_some_iff.1 h
  simp at h;subst h
  exact⟨rfl,iL jE h1,iL mf h2,trivial⟩
 ·cases h
def yS:AV→Option (List Int)
 | .agg cs=>fT ln cs
 | _=>none
theorem LP(a:AV)(x:List Int)(h:yS a=some x):a=tav x:=by
 unfold yS at h;split at h
 ·rw[jZ nE h];rfl
 ·cases h
theorem p8{l:List Int}:fT ln (l.map (.int .i64))=some l:=lu (f:=AV.int .i64) (fun _=>rfl) l
theorem nD(x:List Int):yS (.agg (x.map (.int .i64)))=some x:=p8
def J0:Ty Rng:=⟨gj,Rng.av,fun{a x} h=>by rw[jE a x h];exact⟨rfl,rfl,trivial⟩⟩
def tRd:Ty Rd:=⟨kl,Rd.av,fun{a x} h=>by rw[mf a x h];exact⟨rfl,rfl,rfl,rfl,rfl,rfl,trivial⟩⟩
def lp:Ty Ear:=⟨pn,Ear.av,fun{a x} h=>DE a x h⟩
theorem yj:∀l:List Int,wkL wk0 (l.map (AV.int .i64)) (l.map (AV.int .i64))
 | []=>trivial
 | _::l=>⟨rfl,yj l⟩
def tT:Ty (List Int):=⟨yS,tav,fun{a x} h=>by rw[LP a x h];exact yj x⟩
theorem Kp{t:Tok}{l:List Rng}:dA 2 gj (.list t 2 (l.map Rng.av))=some l:=iR o8
theorem Po{t:Tok}{l:List Rd}:dA 6 kl (.list t 6 (l.map Rd.av))=some l:=iR lr
theorem Ku{a:AV}:J0.dec a=gj a:=rfl
theorem vF{a:AV}:tRd.dec a=kl a:=rfl
theorem Kd{a:AV}:lp.dec a=pn a:=rfl
theorem tN{a:AV}:tT.dec a=yS a:=rfl
theorem Rng.plain(x:Rng):Plain x.av:= .agg (by simp;exact⟨.int,.int⟩)
theorem Rd.plain(x:Rd):Plain x.av:= .agg (by simp;exact⟨.int,.int,.int,.int,.int,.int⟩)
theorem I0(x:List Int):Plain (tav x):= .agg fun c hc=>by
 obtain⟨n,_,rfl⟩:=List.mem_map.1 hc;exact .int
theorem tx(x:List (List Int)):Plain (eI x):= .map fun t _=>I0 t
def im(x y:Int):Int:=max (x-y) (y-x)
def isR(r:Rd)(sl:Int)(t:List Int):Bool:=
 if r.kind=1 then decide (100*(r.shown.lo-1-sl)<tg t r.a*r.sec∧tg t r.a*r.sec<100*(r.shown.hi+1+sl))
 else if r.kind=2 then decide (100*r.shown.lo≤im (tg t r.a) (tg t r.b)*r.sec∧im (tg t r.a) (tg t r.b)*r.sec≤100*r.shown.hi)
 else decide (tg t r.b<tg t r.a)
theorem Pa(r:Rng):(⟨r.lo,r.hi⟩: Rng)=r:=rfl
theorem Rj(r:Rd):(⟨r.kind,r.a,r.b,r.sec,⟨r.shown.lo,r.shown.hi⟩⟩: Rd)=r:=rfl
theorem PI(r:Rd):(⟨r.kind,r.a,r.b,r.sec,r.shown⟩: Rd)=r:=rfl
def small(t:List Int):Prop:=∀x∈t,0≤x∧x≤1000000
instance (t:List Int):Decidable (small t):=by unfold small;infer_instance
def okR(r:Rd):Prop:=(1≤r.kind∧r.kind≤3)∧(0≤r.a∧r.a≤2)∧(0≤r.b∧r.b≤2)∧(0≤r.sec∧r.sec≤20)∧(0≤r.shown.lo∧r.shown.lo≤100000)∧(0≤r.shown.hi∧r.shown.hi≤100000)
instance (r:Rd):Decidable (okR r):=by unfold okR;infer_instance
theorem dZ{t:List Int}(h:small t)(i:Int):0≤tg t i∧tg t i≤1000000:=by
 unfold tg List.getD
 cases hx:t[i.toNat]? with
 | none=>simp
 | some x=>simpa using h x (List.mem_of_getElem? hx)
def ckR(r:Rd)(m:Int):Int:=
 if¬(1≤r.kind∧r.kind≤3) then 8
 else if¬(0≤r.a∧r.a≤m-1) then 3
 else if r.kind=1∧r.b≠0 then 1
 else if r.kind≠1∧¬(0≤r.b∧r.b≤m-1) then 3
 else if r.kind≠1∧r.b=r.a then 4
 else if¬((if r.kind=3 then 0 else 1)≤r.sec∧r.sec≤(if r.kind=3 then 0 else 20)) then 1
 else if¬(0≤r.shown.lo∧r.shown.lo≤(if r.kind=3 then 0 else 25000)) then 1
 else if¬(0≤r.shown.hi∧r.shown.hi≤(if r.kind=3 then 0 else 25000)) then 1
 else if r.shown.lo>r.shown.hi then 5
 else 0
def ckT(x:Rng):Int:=
 if¬(1≤x.lo∧x.lo≤100000) then 1
 else if¬(1≤x.hi∧x.hi≤100000) then 1
 else if x.lo>x.hi then 5
 else if x.hi-x.lo>20 then 1
 else 0
def bM{α:Type}(f:α→Int):List α→Int
 | []=>0
 | x::l=>if f x=0 then bM f l else f x
def ck(e:Ear):Int:=
 if¬(0≤e.slack∧e.slack≤3) then 1
 else if e.tones.length=0 then 7
 else if e.tones.length>3 then 6
 else if bM ckT e.tones≠0 then bM ckT e.tones
 else if e.rds.length>6 then 6
 else bM (fun r=>ckR r e.tones.length) e.rds
def dY(e:Ear):Nat→List Int→Nat→List (List Int)
 | 0,t,_=>if e.rds.all (fun r=>isR r e.slack t) then[t] else[]
 | m+1,t,a=>(List.range ((e.tones.getD a default).hi- (e.tones.getD a default).lo+1).toNat).flatMap fun(k:Nat)=>dY e m (bG t a ((e.tones.getD a default).lo+k)) (a+1)
structure OkE(e:Ear):Prop where
 len:e.tones.length≤3
 tone:∀x∈e.tones,1≤x.lo∧x.lo≤x.hi∧x.hi≤100000∧x.hi-x.lo≤20
 rd:∀r∈e.rds,okR r
 rl:e.rds.length≤4294967296
 sl:0≤e.slack∧e.slack≤3
theorem oY{α:Type}(f:Nat→List α){i n:Nat}(h:i<n):∃X,(List.range n).flatMap f=(List.range i).flatMap f++(f i++X):=by
 induction n with
 | zero=>omega
 | succ n ih=>
  rw[List.range_succ,List.flatMap_append]
  by_cases e:i=n
  ·subst e;exact⟨[],by simp⟩
  ·obtain⟨X,hX⟩:=ih (by omega)
   exact⟨X++f n,by rw[hX];simp⟩
theorem gE{α:Type}(f:Nat→List α)(n:Nat):(List.range (n+1)).flatMap f=(List.range n).flatMap f++f n:=by
 rw[List.range_succ,List.flatMap_append];simp
theorem o7{t:List Int}{i x y:Int}:bG (bG t i x) i y=bG t i y:=by simp[bG]
theorem oz{t:List Int}{i x:Int}:(bG t i x).length=t.length:=by simp[bG]
theorem oM{t:List Int}{i x:Int}(h:small t)(hx:0≤x∧x≤1000000):small (bG t i x):=by
 intro y hy
 rcases List.mem_or_eq_of_mem_set hy with h1 | h1
 ·exact h y h1
 ·rw[h1];exact hx
end Go.Proofs
