/- Texts of a proof: lemmas. -/
import Derived.Test.YtgbdndlmdklefaaGreatFK30
import Derived.Test.YtgbdndlmdklefaaGreatFK31
import Derived.Test.YtgbdndlmdklefaaGreatFK27
import Derived.Test.YtgbdndlmdklefaaGreatFK26
set_option linter.unusedSimpArgs false
set_option linter.unusedVariables false
set_option maxRecDepth 100000
set_option maxHeartbeats 40000000
namespace Go.Proofs
open Go Go.Mu Go.Ins
variable {S:MC Tryz.prog}
theorem evOpsM_len0{E:Env}{all os:List Oper}{dst:Option Tmp}{op:Op}{type:TypeId}{pos:String}{after:Array Edge}{fr:Fr}{σ:List AObj}{Q:Fr→List AObj→Prop}:evOpsM E all 0 (⟨dst,op,type,pos,after,none⟩::os) fr σ Q=mlenA E fr σ op (evNext E all os dst fr Q):=by
 have e:wantA all fr none=some true:=rfl
 simp only[evOpsM,e,true_implies,Bool.true_eq_false,false_implies,and_true,forall_const]
attribute [go_sem] evOpsM_len0 evOpsM_plain nextN_some nextN_none mlenA_len mlenO_map mlenH_map
def mapX(l:List (List Int)):List (AV×AV):=l.map fun x=>(rtv x,.bool true)
theorem key4(a b c d e f g h:Int):keyEq (rtv [a,b,c,d]) (rtv [e,f,g,h])=some (decide ([a,b,c,d]=[e,f,g,h])):=by
 simp only[rtv,List.map_cons,List.map_nil,keyEq,intsA,Option.map_some,List.length_cons,List.length_nil,if_true,Option.some.injEq]
 rw[Bool.eq_iff_iff]
 simp
theorem len4{x:List Int}(h:x.length=4):∃a b c d,x=[a,b,c,d]:=by
 match x,h with
 | [a,b,c,d],_=>exact⟨a,b,c,d,rfl⟩
theorem keyX{x y:List Int}(hx:x.length=4)(hy:y.length=4):keyEq (rtv x) (rtv y)=some (decide (x=y)):=by
 obtain⟨a,b,c,d,rfl⟩:=len4 hx
 obtain⟨e,f,g,h,rfl⟩:=len4 hy
 exact key4 ..
theorem findX_none{x:List Int}(hx:x.length=4):∀{m:List (List Int)} {i:Nat},(∀y∈m,y.length=4)→x∉m→findA (rtv x) (mapX m) i=some none
 | [],i,_,_=>rfl
 | y::m,i,hm,h=>by
  simp only[mapX,List.map_cons,findA]
  rw[keyX hx (hm y (by simp)),decide_eq_false (fun e=>h (by simp[e]))]
  exact findX_none hx (fun z hz=>hm z (by simp[hz])) (fun hz=>h (by simp[hz]))
theorem findX_some{x:List Int}(hx:x.length=4):∀{m:List (List Int)} {i:Nat},(∀y∈m,y.length=4)→x∈m→∃j,m[j]? = some x∧findA (rtv x) (mapX m) i=some (some (i+j,.bool true))
 | [],i,_,h=>by simp at h
 | y::m,i,hm,h=>by
  by_cases e:x=y
  ·subst e
   refine⟨0,rfl,?_⟩
   simp only[mapX,List.map_cons,findA]
   rw[keyX hx hx,decide_eq_true rfl];rfl
  ·obtain⟨j,h1,h2⟩:=findX_some (i:=i+1) hx (fun z hz=>hm z (by simp[hz])) ((List.mem_cons.1 h).resolve_left e)
   refine⟨j+1,by simpa using h1,?_⟩
   simp only[mapX,List.map_cons,findA]
   rw[keyX hx (hm y (by simp)),decide_eq_false e]
   rw[show i+(j+1)=i+1+j by omega]
   exact h2
theorem updX{x:List Int}(hx:x.length=4){m:List (List Int)}(hm:∀y∈m,y.length=4){r:Nat}{σ:List AObj}:updR r (mapX m) (rtv x) (.bool true) σ (findA (rtv x) (mapX m) 0)=some (.tup [],hset σ r (.map (mapX (addX m x)))):=by
 by_cases h:x∈m
 ·obtain⟨j,h1,h2⟩:=findX_some (i:=0) hx hm h
  rw[h2,addX,if_pos h]
  have:(mapX m).set j (rtv x,.bool true)=mapX m:=by
   apply List.ext_getElem?
   intro k
   rw[List.getElem?_set]
   split
   ·rename_i e;subst e
    have hj:=List.getElem?_eq_some_iff.1 h1
    simp[mapX,hj.1,hj.2]
   ·rfl
  simp only[updR,Nat.zero_add,this]
 ·rw[findX_none hx hm h,addX,if_neg h]
  simp[updR,mapX]
theorem addXs_all{p:List Int→Prop}:∀{l m:List (List Int)},(∀y∈m,p y)→(∀y∈l,p y)→∀y∈l.foldl addX m,p y:=by
 intro l m hm hl y hy
 rcases addX_mem.1 hy with h | h
 ·exact hm y h
 ·exact hl y h
def foundS(r:Ros)(ds:List (List Int))(many n:Nat):List (List Int):=((List.range n).filter fun s=>popN s==many).flatMap (htruthsR r ds)
def foundR(r:Ros)(ds:List (List Int))(many:Nat):List (List Int):=foundS r ds many (2^r.hands.toNat)
def explF(r:Ros)(ds:List (List Int)):Nat→Nat→List (List Int)
 | 0,_=>[]
 | n+1,k=>if foundR r ds k=[] then explF r ds n (k+1) else(foundR r ds k).foldl addX []
def explR(r:Ros)(ds:List (List Int)):List (List Int):=explF r ds (r.hands.toNat+1) 0
theorem foundS_succ{r:Ros}{ds:List (List Int)}{many n:Nat}:foundS r ds many (n+1)=foundS r ds many n++if popN n=many then htruthsR r ds n else[]:=by
 unfold foundS
 rw[List.range_succ,List.filter_append,List.flatMap_append]
 by_cases h:popN n=many
 ·simp[h]
 ·simp[h]
theorem htruthsR_ok{r:Ros}(hr:r.Head){ds:List (List Int)}{s:Nat}{u:List Int}(hu:u∈htruthsR r ds s):OkX r u:=ratesR_ok hr (List.mem_filter.1 hu).1
theorem foundS_ok{r:Ros}(hr:r.Head){ds:List (List Int)}{many n:Nat}{u:List Int}(hu:u∈foundS r ds many n):OkX r u:=by
 obtain⟨s,_,hs⟩:=List.mem_flatMap.1 hu
 exact htruthsR_ok hr hs
theorem addX_nil{l:List (List Int)}:l.foldl addX []=[]↔l=[]:=by
 constructor
 ·intro h
  cases l with
  | nil=>rfl
  | cons x l=>
   have:x∈(x::l).foldl addX []:=addX_mem.2 (.inr (by simp))
   rw[h] at this;simp at this
 ·rintro rfl;rfl
theorem explF_ok{r:Ros}(hr:r.Head){ds:List (List Int)}:∀{n k:Nat} {u:List Int},u∈explF r ds n k→OkX r u
 | 0,k,u,h=>by simp[explF] at h
 | n+1,k,u,h=>by
  simp only[explF] at h
  split at h
  ·exact explF_ok hr h
  ·rcases addX_mem.1 h with h | h
   ·simp at h
   ·exact foundS_ok hr h
theorem explR_ok{r:Ros}(hr:r.Head){ds:List (List Int)}{u:List Int}(h:u∈explR r ds):OkX r u:=explF_ok hr h
theorem htruthsR_len{r:Ros}(hr:r.Head){ds:List (List Int)}{s:Nat}:(htruthsR r ds s).length≤14641:=Nat.le_trans (List.length_filter_le _ _) (ratesR_len hr s)
theorem foundS_len{r:Ros}(hr:r.Head){ds:List (List Int)}{many:Nat}:∀n,(foundS r ds many n).length≤n*14641
 | 0=>by simp[foundS]
 | n+1=>by
  rw[foundS_succ,List.length_append]
  have:=foundS_len hr (ds:=ds) (many:=many) n
  split
  ·have:=htruthsR_len hr (ds:=ds) (s:=n);omega
  ·simp;omega
theorem expl_c(r:Ros)(ds:List (List Int))(hr:Work r ds){σ:List AObj}{Q:AV→List AObj→Prop}(h:∀j,Q (.map (σ.length+1)) (σ++(.cells (r.wcells ds):: .map (mapX (explR r ds))::j))):ACalls S 136 [r.wav ds] σ Q:=by
 refine AcE (Tryz.envOK (S:=S) 44 (fun _=>([],[])) fs403 fs403_ok) Tryz.kp136 Tryz.func136 rfl ?_
 have hh:=hr.hands
 have hH:(r.hands.toNat:Int)=r.hands:=by omega
 have hw1:IntKind.i64.wrap (r.hands+1)=r.hands+1:=wrap64 (by omega) (by omega)
 simp only[Ros.wav]
 simp -implicitDefEqProofs (maxSteps:=9^9) (disch:=omega) only[go_sem,simprocAttr,hw1]
 refine ARun.countA (r.hands.toNat+1) (fun i τ=>∃j,τ=σ++(.cells (r.wcells ds):: .map []::j)∧explR r ds=explF r ds (r.hands.toNat+1-i) i) (fun i=>[(13,.int .i64 i)]) (by simp[upd,ins,subF,lookA]) ⟨[],by simp[Ros.wcells],rfl⟩ ?_ ?_
 ·rintro i τ hi ⟨j,rfl,hE⟩ ih
  have hE1:explR r ds=if foundR r ds i=[] then explF r ds (r.hands.toNat+1- (i+1)) (i+1) else(foundR r ds i).foldl addX []:=by
   rw[hE,show r.hands.toNat+1-i=(r.hands.toNat+1- (i+1))+1 by omega];rfl
  clear hE
  have hsh:IntKind.u64.wrap (1*2^min r.hands.toNat 64)=((2^r.hands.toNat:Nat):Int):=by
   have e1:min r.hands.toNat 64=r.hands.toNat:=by omega
   have hp:(2:Nat)^r.hands.toNat≤2^4:=Nat.pow_le_pow_right (by omega) (by omega)
   rw[e1,Int.one_mul]
   have:((2:Int)^r.hands.toNat)=((2^r.hands.toNat:Nat):Int):=by push_cast;rfl
   rw[this,u64_nat,Nat.mod_eq_of_lt (by omega)]
  refine ev_sound (Tryz.envOK (S:=S) 44 (fun _=>([],[])) fs403 fs403_ok) (n:=1000) (by kernel_rfl) ?_
  simp -implicitDefEqProofs (maxSteps:=9^9) (disch:=omega) only[go_sem,simprocAttr,Ros.wcells,hsh]
  refine ARun.countA (2^r.hands.toNat) (fun n τ=>∃j2,τ=σ++(.cells (r.wcells ds):: .map (mapX ((foundS r ds i n).foldl addX []))::j2)) (fun n=>[(20,.int .u64 n)]) (by simp[upd,ins,subF,lookA]) ⟨j,by simp[Ros.wcells,foundS,mapX]⟩ ?_ ?_
  ·rintro n τ hn ⟨j2,rfl⟩ ih2
   have hn16:n<16:=by
    have hp:(2:Nat)^r.hands.toNat≤2^4:=Nat.pow_le_pow_right (by omega) (by omega)
    omega
   have hwn:IntKind.u64.wrap ((n:Int)+1)=((n+1:Nat):Int):=by rw[show((n:Int)+1)=((n+1:Nat):Int) by push_cast;rfl,u64_nat,Nat.mod_eq_of_lt (by omega)]
   rw[foundS_succ,List.foldl_append] at ih2
   refine ev_sound (Tryz.envOK (S:=S) 44 (fun _=>([],[])) fs403 fs403_ok) (n:=1000) (by kernel_rfl) ?_
   by_cases hc:popN n=i
   ·rw[if_pos hc] at ih2
    simp -implicitDefEqProofs (maxSteps:=9^9) (disch:=omega) only[go_sem,simprocAttr,Ros.wcells,hwn,hc]
    refine htruths_p r ds hr n hn16 _ _ ?_
    have hTl:=htruthsR_len hr.toHead (ds:=ds) (s:=n)
    have hTo:∀u∈htruthsR r ds n,u.length=4:=fun u hu=>(htruthsR_ok hr.toHead hu).len
    have hFo:∀u∈(foundS r ds i n).foldl addX [],u.length=4:=addXs_all (p:=fun u=>u.length=4) (by simp) fun u hu=>(foundS_ok hr.toHead hu).len
    generalize htruthsR r ds n=TL at hTl hTo ih2⊢
    generalize (foundS r ds i n).foldl addX []=F0 at hFo ih2⊢
    simp -implicitDefEqProofs (maxSteps:=9^9) (disch:=omega) only[go_sem,simprocAttr,Ros.wcells,hwn,hc]
    refine ARun.forS (Tryz.envOK (S:=S) 44 (fun _=>([],[])) fs403 fs403_ok) TL.length (fun _=>True) (fun k=>[(31,.int .i64 k)]) (fun k j3=>σ++(.cells (r.wcells ds):: .map (mapX ((TL.take k).foldl addX F0))::j3)) j2 (by kernel_rfl) (by simp[Ros.wcells]) (by simp[upd,ins,subF,lookA]) trivial ?_ ?_
    ·intro k j3 hk _ ih3
     rw[take_foldl hk] at ih3
     have hxl:=hTo _ (List.getElem_mem hk)
     have hFk:∀u∈(TL.take k).foldl addX F0,u.length=4:=addXs_all (p:=fun u=>u.length=4) hFo fun u hu=>hTo u (List.mem_of_mem_take hu)
     have hidx:idx (TL.map rtv) (k:Int)=some (rtv TL[k]):=idx_nat hk
     generalize (TL.take k).foldl addX F0=F1 at hFk ih3⊢
     have hup:=fun(r0:Nat) (σ0:List AObj)=>@updX _ hxl _ hFk r0 σ0
     obtain⟨a,b,c,d,hx⟩:=len4 hxl
     rw[hx] at hidx ih3 hup
     simp only[rtv,List.map_cons,List.map_nil] at hidx hup
     simp -implicitDefEqProofs (maxSteps:=9^9) (disch:=omega) only[go_sem,simprocAttr,Ros.wcells,hidx,hup]
     exact(ih3 trivial (j3++[_])).castS rfl (by simp[upd,ins,subF,lookA])
    ·intro j3 _
     rw[List.take_length]
     simp -implicitDefEqProofs (maxSteps:=9^9) (disch:=omega) only[go_sem,simprocAttr,Ros.wcells,hwn]
     exact(ih2 _ ⟨j3,rfl⟩).castS rfl (by simp[upd,ins,subF,lookA])
   ·rw[if_neg hc] at ih2
    have hc':((popN n:Int)=i)=False:=by simp;omega
    simp -implicitDefEqProofs (maxSteps:=9^9) (disch:=omega) only[go_sem,simprocAttr,Ros.wcells,hwn,hc']
    exact(ih2 _ ⟨j2,rfl⟩).castS rfl (by simp[upd,ins,subF,lookA])
  ·rintro τ ⟨j2,rfl⟩
   have hF:(foundS r ds i (2^r.hands.toNat)).foldl addX []=(foundR r ds i).foldl addX []:=rfl
   rw[hF]
   have hwi:IntKind.i64.wrap ((i:Int)+1)=((i+1:Nat):Int):=by rw[wrap64 (by omega) (by omega)];rfl
   refine ev_sound (Tryz.envOK (S:=S) 44 (fun _=>([],[])) fs403 fs403_ok) (n:=6) (by kernel_rfl) ?_
   simp -implicitDefEqProofs (maxSteps:=9^9) (disch:=omega) only[go_sem,simprocAttr,Ros.wcells]
   change ARun _ _ _ _ _ _
   refine ARun.regionM (Tryz.envOK (S:=S) 44 (fun _=>([],[])) fs403 fs403_ok) 1 ?_
   by_cases hz:foundR r ds i=[]
   ·rw[if_pos hz] at hE1
    have hz':(foundR r ds i).foldl addX []=[]:=addX_nil.2 hz
    rw[hz']
    have hml:(mapX []).length=0:=rfl
    simp -implicitDefEqProofs (maxSteps:=9^9) (disch:=omega) only[go_sem,simprocAttr,Ros.wcells,hml]
    refine ev_sound (Tryz.envOK (S:=S) 44 (fun _=>([],[])) fs403 fs403_ok) (n:=1000) (by kernel_rfl) ?_
    simp -implicitDefEqProofs (maxSteps:=9^9) (disch:=omega) only[go_sem,simprocAttr,Ros.wcells,hml,hwi]
    exact(ih _ ⟨j2,rfl,hE1⟩).castS rfl (by simp[upd,ins,subF,lookA])
   ·rw[if_neg hz] at hE1
    have hz':(foundR r ds i).foldl addX []≠[]:=fun e=>hz (addX_nil.1 e)
    rw[← hE1] at hz'⊢
    have hml:(mapX (explR r ds)).length=(explR r ds).length:=by simp[mapX]
    have hpos:(0:Int)<((explR r ds).length:Int):=by have:=List.length_pos_iff.2 hz';omega
    simp -implicitDefEqProofs (maxSteps:=9^9) (disch:=omega) only[go_sem,simprocAttr,Ros.wcells,hml]
    refine ev_sound (Tryz.envOK (S:=S) 44 (fun _=>([],[])) fs403 fs403_ok) (n:=1000) (by kernel_rfl) ?_
    simp -implicitDefEqProofs (maxSteps:=9^9) (disch:=omega) only[go_sem,simprocAttr,Ros.wcells,hml]
    exact h j2
 ·rintro τ ⟨j,rfl,hE⟩
  have hE1:explR r ds=[]:=by rw[hE,Nat.sub_self];rfl
  refine ev_sound (Tryz.envOK (S:=S) 44 (fun _=>([],[])) fs403 fs403_ok) (n:=1000) (by kernel_rfl) ?_
  have hlt:((r.hands.toNat+1:Nat):Int)=r.hands+1:=by omega
  simp -implicitDefEqProofs (maxSteps:=9^9) (disch:=omega) only[go_sem,simprocAttr]
  have:=h j;rw[hE1] at this;exact this
def bitsOf(p:Nat→Bool):Nat→Nat
 | 0=>0
 | n+1=>bitsOf p n+if p n then 2^n else 0
theorem bitsOf_lt(p:Nat→Bool):∀n,bitsOf p n<2^n
 | 0=>by simp[bitsOf]
 | n+1=>by
  have:=bitsOf_lt p n
  simp only[bitsOf,Nat.pow_succ]
  split<;> omega
theorem bitsOf_test(p:Nat→Bool):∀n i,(bitsOf p n).testBit i=(decide (i<n)&&p i)
 | 0,i=>by simp[bitsOf]
 | n+1,i=>by
  have hl:=bitsOf_lt p n
  have ih:=bitsOf_test p n i
  simp only[bitsOf]
  by_cases hp:p n
  ·rw[if_pos hp,Nat.add_comm]
   rcases(by omega:i<n∨i=n∨n<i) with h | h | h
   ·rw[Nat.testBit_two_pow_add_gt h,ih];simp[h,Nat.lt_succ_of_lt h]
   ·subst h
    rw[Nat.testBit_two_pow_add_eq,ih];simp[hp]
   ·rw[Nat.testBit_lt_two_pow]
    ·simp;omega
    ·have:2^(n+1)≤2^i:=Nat.pow_le_pow_right (by omega) (by omega)
     rw[Nat.pow_succ] at this;omega
  ·rw[if_neg hp,Nat.add_zero,ih]
   rcases(by omega:i<n∨i=n∨n<i) with h | h | h
   ·simp[h,Nat.lt_succ_of_lt h]
   ·subst h;simp[hp]
   ·have h1:decide (i<n)=false:=decide_eq_false (by omega)
    have h2:decide (i<n+1)=false:=decide_eq_false (by omega)
    rw[h1,h2]
theorem bitsOf_or(p:Nat→Bool)(n:Nat):bitsOf p n|||2^n=bitsOf p n+2^n:=by
 have:=Nat.two_pow_add_eq_or_of_lt (bitsOf_lt p n) 1
 rw[Nat.mul_one] at this
 rw[Nat.or_comm,← this,Nat.add_comm]
def driftN(x:List Int):Nat:=bitsOf (fun i=>decide (tg x i≠0)) 4
def listN(s:Nat):List Int:=((List.range 4).filter fun n=>s.testBit n).map fun(n:Nat)=>(n:Int)
theorem driftN_lt(x:List Int):driftN x<16:=bitsOf_lt _ 4
theorem drifting_p(x:List Int)(hx:x.length=4):PureV S 137 [rtv x] (.int .u64 (driftN x)):=by
 refine PvE (Tryz.envOK (S:=S) 22 (fun _=>([],[])) fs403 fs403_ok) (.int) Tryz.kp137 Tryz.func137 rfl ?_
 intro σ
 obtain⟨a,b,c,d,rfl⟩:=len4 hx
 simp only[rtv,List.map_cons,List.map_nil]
 simp -implicitDefEqProofs (maxSteps:=9^9) (disch:=omega) only[go_sem,simprocAttr]
 refine⟨fun h=>by rw[h];rfl,fun _=>?_⟩
 have e:[AV.int .i64 a,.int .i64 b,.int .i64 c,.int .i64 d]=[a,b,c,d].map (AV.int .i64):=rfl
 rw[e]
 clear e
 generalize [a,b,c,d]=x at hx⊢
 refine ARun.forS (Tryz.envOK (S:=S) 22 (fun _=>([],[])) fs403 fs403_ok) 4 (fun _=>True) (fun i=>[(3,.int .u64 (bitsOf (fun i=>decide (tg x i≠0)) i)),(11,.int .i64 i)]) (fun _ _=>σ++[.cells (x.map (.int .i64))]) [] (by kernel_rfl) rfl (by simp[upd,ins,subF,lookA,bitsOf]) trivial ?_ ?_
 ·intro i j hi _ ih
  have hb:=bitsOf_lt (fun i=>decide (tg x i≠0)) i
  have hb4:bitsOf (fun i=>decide (tg x i≠0)) i<65536:=by
   have:(2:Nat)^i≤2^4:=Nat.pow_le_pow_right (by omega) (by omega)
   omega
  have hwi:IntKind.i64.wrap ((i:Int)+1)=((i+1:Nat):Int):=by rw[wrap64 (by omega) (by omega)];rfl
  have hor:=bitsOf_or (fun i=>decide (tg x i≠0)) i
  have hsu:bitsOf (fun i=>decide (tg x i≠0)) (i+1)=bitsOf (fun i=>decide (tg x i≠0)) i+if decide (tg x i≠0)=true then 2^i else 0:=rfl
  rw[hsu] at ih
  generalize bitsOf (fun i=>decide (tg x i≠0)) i=B at *
  have hidx:(x.map (AV.int .i64))[i]? = some (.int .i64 (tg x i)):=by
   have:=@tget x (i:Int) (by omega) (by omega)
   simpa using this
  by_cases hz:tg x i=0
  ·have hz':(tg x i=0)=True:=eq_true hz
   rw[if_neg (by simp[hz])] at ih
   simp -implicitDefEqProofs (maxSteps:=9^9) (disch:=omega) only[go_sem,simprocAttr,hz',hwi,hidx]
   exact(ih trivial []).castS rfl (by simp[upd,ins,subF,lookA])
  ·have hz':(tg x i=0)=False:=eq_false hz
   rw[if_pos (by simp[hz])] at ih
   simp -implicitDefEqProofs (maxSteps:=9^9) (disch:=omega) only[go_sem,simprocAttr,hz',hwi,hor,hidx]
   exact(ih trivial []).castS rfl (by simp[upd,ins,subF,lookA])
 ·intro j _
  simp -implicitDefEqProofs (maxSteps:=9^9) (disch:=omega) only[go_sem,simprocAttr]
  rfl
theorem list_p(s:Nat)(hs:s<16):PureV S 112 [.int .u64 s] (ints1 (listN s)):=by
 refine PvE (Tryz.envOK (S:=S) 20 (fun _=>([],[])) fs403 fs403_ok) ((ints1_good (listN s)).2) Tryz.kp112 Tryz.func112 rfl ?_
 intro σ
 simp -implicitDefEqProofs (maxSteps:=9^9) (disch:=omega) only[go_sem,simprocAttr]
 refine ARun.ghost 3 1 (sz0:=0) rfl (by simp[lookA]) ?_
 simp only[ins,↓reduceIte,Nat.reduceEqDiff]
 refine ARun.forS (Tryz.envOK (S:=S) 20 (fun _=>([],[])) fs403 fs403_ok) 4 (fun _=>True) (fun i=>[(3,.list (.own σ.length) 1 ((((List.range i).filter fun n=>s.testBit n).map fun(n:Nat)=>(n:Int)).map (.int .i64))),(8,.int .i64 i)]) (fun i _=>σ++[.tail (((List.range i).filter fun n=>s.testBit n).map fun(n:Nat)=>(n:Int)).length 1]) [] (by kernel_rfl) rfl (by simp[upd,ins,subF,lookA]) trivial ?_ ?_
 ·intro i j hi _ ih
  have hlen:(((List.range i).filter fun n=>s.testBit n).map fun(n:Nat)=>(n:Int)).length≤i:=by
   rw[List.length_map];exact Nat.le_trans (List.length_filter_le _ _) (by simp)
  have hwi:IntKind.i64.wrap ((i:Int)+1)=((i+1:Nat):Int):=by rw[wrap64 (by omega) (by omega)];rfl
  have hsu:(((List.range (i+1)).filter fun n=>s.testBit n).map fun(n:Nat)=>(n:Int))=(((List.range i).filter fun n=>s.testBit n).map fun(n:Nat)=>(n:Int))++if s.testBit i then[(i:Int)] else[]:=by
   rw[List.range_succ,List.filter_append,List.map_append]
   cases h:s.testBit i<;> simp[h]
  rw[hsu] at ih
  generalize (((List.range i).filter fun n=>s.testBit n).map fun(n:Nat)=>(n:Int))=L at *
  cases hb:s.testBit i
  ·rw[hb] at ih
   simp -implicitDefEqProofs (maxSteps:=9^9) (disch:=omega) only[go_sem,simprocAttr,hb,hwi]
   exact(ih trivial []).castS (by simp) (by simp[upd,ins,subF,lookA])
  ·rw[hb] at ih
   simp -implicitDefEqProofs (maxSteps:=9^9) (disch:=omega) only[go_sem,simprocAttr,hb,hwi]
   exact(ih trivial []).castS (by simp) (by simp[upd,ins,subF,lookA])
 ·intro j _
  simp -implicitDefEqProofs (maxSteps:=9^9) (disch:=omega) only[go_sem,simprocAttr,ints1]
  rfl
def cmpI_s:=spec2 tI tI fun x y=>some (.int .i64 (if x=y then 0 else if x<y then -1 else 1))
theorem cmpI_ok:∀xs v,cmpI_s xs=some v→PureV S 180 xs v:=by
 refine spec2_ok fun x y v h=>?_
 simp only[Option.some.injEq] at h;subst h
 refine PvE (Tryz.envOK (S:=S) 20 (fun _=>([],[])) fs300 fs300_ok) (.int) Tryz.kp180 Tryz.func180 rfl ?_
 intro σ
 simp only[tI]
 simp -implicitDefEqProofs (maxSteps:=9^9) (disch:=omega) only[go_sem,simprocAttr]
 refine⟨fun h=>by rw[if_neg (by omega),if_pos h],fun h=>⟨fun h2=>by rw[if_neg (by omega),if_neg h],fun h2=>by rw[if_pos (by omega)]⟩⟩
def fs404(f:FuncId)(xs:List AV):Option AV:=if f=180 then cmpI_s xs else fs403 f xs
theorem fs404_ok{S:MC Tryz.prog}:∀f xs v,fs404 f xs=some v→PureV S f xs v:=by
 intro f xs v h
 unfold fs404 at h
 split at h
 ·rename_i e;subst e;exact cmpI_ok _ _ h
 exact fs403_ok _ _ _ h
attribute [go_sem] fs404 cmpI_s
theorem cmpL_p(a b:List Int)(ha:a.length≤1000000)(hb:b.length≤1000000):PureV S 139 [ints1 a,ints1 b] (.int .i64 (cmpL a b)):=by
 refine PvE (Tryz.envOK (S:=S) 36 (fun _=>([],[])) fs404 fs404_ok) (.int) Tryz.kp139 Tryz.func139 rfl ?_
 intro σ
 simp only[ints1]
 simp -implicitDefEqProofs (maxSteps:=9^9) (disch:=omega) only[go_sem,simprocAttr]
 refine ARun.forS (Tryz.envOK (S:=S) 36 (fun _=>([],[])) fs404 fs404_ok) a.length (fun i=>cmpL (a.drop i) (b.drop i)=cmpL a b) (fun i=>[(11,.int .i64 i)]) (fun _ _=>σ) [] (by kernel_rfl) rfl (by simp[upd,ins,subF,lookA]) (by simp) ?_ ?_
 ·intro i j hi hp ih
  by_cases hb2:i<b.length
  ·rw[cmpL_drop hi hb2] at hp
   have hge:(b.length≤i)=False:=eq_false (by omega)
   by_cases he:a[i]=b[i]
   ·rw[if_pos he] at hp
    have he':(a[i]=b[i])=True:=eq_true he
    simp -implicitDefEqProofs (maxSteps:=9^9) (disch:=omega) only[go_sem,simprocAttr,hge,he']
    exact(ih hp []).castS rfl (by simp[upd,ins,subF,lookA])
   ·rw[if_neg he] at hp
    have he':(a[i]=b[i])=False:=eq_false he
    rw[← hp]
    by_cases hl:a[i]<b[i]
    ·have hl':(a[i]<b[i])=True:=eq_true hl
     simp -implicitDefEqProofs (maxSteps:=9^9) (disch:=omega) only[go_sem,simprocAttr,hge,he',hl']
    ·have hl':(a[i]<b[i])=False:=eq_false hl
     simp -implicitDefEqProofs (maxSteps:=9^9) (disch:=omega) only[go_sem,simprocAttr,hge,he',hl']
  ·rw[cmpL_endA hi (by omega)] at hp
   rw[← hp]
   have hge:(b.length≤i)=True:=eq_true (by omega)
   simp -implicitDefEqProofs (maxSteps:=9^9) (disch:=omega) only[go_sem,simprocAttr,hge]
 ·intro j hp
  by_cases hl:a.length<b.length
  ·rw[cmpL_endB hl] at hp
   rw[← hp]
   have hl':(a.length<b.length)=True:=eq_true hl
   simp -implicitDefEqProofs (maxSteps:=9^9) (disch:=omega) only[go_sem,simprocAttr,hl']
  ·rw[cmpL_endC hl] at hp
   rw[← hp]
   have hl':(a.length<b.length)=False:=eq_false hl
   simp -implicitDefEqProofs (maxSteps:=9^9) (disch:=omega) only[go_sem,simprocAttr,hl']
def cmpL_s:=spec2 tIs tIs fun a b=>if a.length≤1000000∧b.length≤1000000 then some (.int .i64 (cmpL a b)) else none
theorem cmpL_ok:∀xs v,cmpL_s xs=some v→PureV S 139 xs v:=
 spec2_ok fun a b v h=>by have h:=someIf h;rw[← h.2];exact cmpL_p a b h.1.1 h.1.2
def fs405(f:FuncId)(xs:List AV):Option AV:=if f=139 then cmpL_s xs else fs404 f xs
theorem fs405_ok{S:MC Tryz.prog}:∀f xs v,fs405 f xs=some v→PureV S f xs v:=by
 intro f xs v h
 unfold fs405 at h
 split at h
 ·rename_i e;subst e;exact cmpL_ok _ _ h
 exact fs404_ok _ _ _ h
attribute [go_sem] fs405 cmpL_s
theorem hset_same{σ:List AObj}{r:Nat}{o:AObj}(h:hget σ r=some o):hset σ r o=σ:=by
 unfold hget at h;unfold hset
 apply List.ext_getElem?
 intro k
 rw[List.getElem?_set]
 split
 ·rename_i e;subst e
  rw[if_pos (List.getElem?_eq_some_iff.1 h).1,h]
 ·rfl
theorem at_map{Z:List (List Int)}{i:Nat}(h:i<Z.length):(Z.map ints1)[i]? = some (ints1 (at_ Z i)):=by
 rw[at_eq h];simp[h]
theorem insL_c(zs:List (List Int))(hz:0<zs.length)(hn:zs.length≤1000000)(hel:∀x∈zs,x.length≤1000000){σ:List AObj}{r:Nat}(hg:hget σ r=some (.vec 1 (zs.map ints1))){Q:AV→List AObj→Prop}(h:Q (.tup []) (hset σ r (.vec 1 ((isort leL zs).map ints1)))) :
  ACalls S 210 [.vec r zs.length,.int .i64 0,.int .i64 zs.length,.fn (.func 139) [] []] σ Q:=by
 refine AcE (Tryz.envOK (S:=S) 53 Tryz.ord210 fs405 fs405_ok) Tryz.kp210 Tryz.func210 rfl ?_
 simp -implicitDefEqProofs (maxSteps:=9^9) (disch:=omega) only[go_sem,simprocAttr]
 refine ARun.forJ (Tryz.envOK (S:=S) 53 Tryz.ord210 fs405 fs405_ok) (zs.length-1) (fun i τ=>∃Z:List (List Int),Z.Perm zs∧Upto leL Z (i+1)∧τ=hset σ r (.vec 1 (Z.map ints1))) (fun i=>[(8,.int .i64 ((i:Int)+1))]) (by kernel_rfl) (by simp[upd,ins,subF,lookA]) ⟨zs,.refl _,Upto.one,(hset_same hg).symm⟩ ?_ ?_
 ·rintro i τ hi ⟨Z,hp,hu,rfl⟩ ih
  have hwi:IntKind.i64.wrap ((i:Int)+1+1)=((i+1:Nat):Int)+1:=by rw[wrap64 (by omega) (by omega)];rfl
  simp -implicitDefEqProofs (maxSteps:=9^9) (disch:=omega) only[go_sem,simprocAttr]
  refine ARun.loopJ (Tryz.envOK (S:=S) 53 Tryz.ord210 fs405 fs405_ok) (α:=Nat×List (List Int)) (fun a=>a.1) (fun a τ=>a.1≤i+1∧a.2.Perm zs∧Sinking leL a.2 (i+1) a.1∧τ=hset σ r (.vec 1 (a.2.map ints1))) (fun a=>[(9,.int .i64 (a.1:Int))]) (i+1,Z) (by kernel_rfl) (by simp[upd,ins,subF,lookA]) ⟨Nat.le_refl _,hp,hu.sinking,rfl⟩ ?_
  clear hu hp
  rintro⟨j,Y⟩ τ ⟨hj,hp,hS,rfl⟩ ih2
  simp only at hj hp hS ih2⊢
  have hyl:Y.length=zs.length:=hp.length_eq
  have hgy:hget (hset σ r (.vec 1 (Y.map ints1))) r=some (.vec 1 (Y.map ints1)):=hget_set hg _
  cases j with
  | zero=>
   have hU:=hS.done leL_trans (.inl rfl)
   simp -implicitDefEqProofs (maxSteps:=9^9) (disch:=omega) only[go_sem,simprocAttr,hwi]
   exact(ih _ ⟨Y,hp,hU,rfl⟩).castS rfl (by simp[upd,ins,subF,lookA])
  | succ k=>
   have hk1:k+1<Y.length:=by omega
   have m1:(Y.map ints1)[((k:Int)+1).toNat]? = some (ints1 (at_ Y (k+1))):=by rw[show((k:Int)+1).toNat=k+1 by omega];exact at_map hk1
   have t1:((k:Int)+1).toNat=k+1:=by omega
   have m0:=at_map (show k<Y.length by omega)
   have l1:(at_ Y (k+1)).length≤1000000:=by rw[at_eq hk1];exact hel _ (hp.mem_iff.1 (List.getElem_mem _))
   have l0:(at_ Y k).length≤1000000:=by rw[at_eq (by omega:k<Y.length)];exact hel _ (hp.mem_iff.1 (List.getElem_mem _))
   have hwk:IntKind.i64.wrap ((k:Int)+1-1)=(k:Int):=by rw[wrap64 (by omega) (by omega)];omega
   by_cases hlt:cmpL (at_ Y (k+1)) (at_ Y k)<0
   ·have hlt':(cmpL (at_ Y (k+1)) (at_ Y k)<0)=True:=eq_true hlt
    have hS2:=hS.step (by omega) hj (Int.le_of_lt hlt)
    have hp2:=(swp_perm hk1).trans hp
    have hgs:∀W,hget (hset σ r (.vec 1 W)) r=some (.vec 1 W):=fun W=>hget_set hg _
    have m0s:∀v,((Y.map ints1).set ((k:Int)+1).toNat v)[k]? = some (ints1 (at_ Y k)):=fun v=>by rw[List.getElem?_set_ne (by omega)];exact m0
    have hfin:((Y.map ints1).set ((k:Int)+1).toNat (ints1 (at_ Y k))).set k (ints1 (at_ Y (k+1)))=(swp Y k).map ints1:=by unfold swp;rw[List.map_set,List.map_set,t1]
    simp only[ints1] at hfin
    simp -implicitDefEqProofs (maxSteps:=9^9) (disch:=omega) only[go_sem,simprocAttr,hgs,m1,m0,m0s,hlt',hwk,ints1,List.length_set]
    exact(ih2 (k,swp Y k) _ (Nat.lt_succ_self k) ⟨by omega,hp2,hS2,by rw[hfin]⟩).castS rfl (by simp[upd,ins,subF,lookA])
   ·have hlt':(cmpL (at_ Y (k+1)) (at_ Y k)<0)=False:=eq_false hlt
    have hU:=hS.done leL_trans (.inr ⟨k,rfl,by unfold leL;rw[cmpL_swap];omega⟩)
    simp -implicitDefEqProofs (maxSteps:=9^9) (disch:=omega) only[go_sem,simprocAttr,hgy,m1,m0,hlt',hwk,hwi,ints1]
    exact(ih _ ⟨Y,hp,hU,rfl⟩).castS rfl (by simp[upd,ins,subF,lookA])
 ·rintro τ ⟨Z,hp,hu,rfl⟩
  have hzl:Z.length=zs.length:=hp.length_eq
  rw[show zs.length-1+1=Z.length by omega] at hu
  have he:=isort_eq leL_trans leL_total (fun a b=>leL_anti) hu.pairwise hp
  rw[← he] at h
  simp -implicitDefEqProofs (maxSteps:=9^9) (disch:=omega) only[go_sem,simprocAttr]
  exact h
theorem pdqL_c(zs:List (List Int))(hz:0<zs.length)(hn:zs.length≤12)(hel:∀x∈zs,x.length≤1000000){lim:Int}{σ:List AObj}{r:Nat}(hg:hget σ r=some (.vec 1 (zs.map ints1))){Q:AV→List AObj→Prop}(h:Q (.tup []) (hset σ r (.vec 1 ((isort leL zs).map ints1)))) :
  ACalls S 179 [.vec r zs.length,.int .i64 0,.int .i64 zs.length,.int .i64 lim,.fn (.func 139) [] []] σ Q:=by
 refine AcE (Tryz.envOK (S:=S) 148 Tryz.ord179 fs405 fs405_ok) Tryz.kp179 Tryz.func179 rfl ?_
 simp -implicitDefEqProofs (maxSteps:=9^9) (disch:=omega) only[go_sem,simprocAttr]
 refine ARun.once (Tryz.envOK (S:=S) 148 Tryz.ord179 fs405 fs405_ok) (by kernel_rfl) ?_
 have h12:((zs.length:Int)≤12)=True:=eq_true (by omega)
 simp -implicitDefEqProofs (maxSteps:=9^9) (disch:=omega) only[go_sem,simprocAttr,h12]
 refine insL_c zs hz (by omega) hel hg ?_
 simp -implicitDefEqProofs (maxSteps:=9^9) (disch:=omega) only[go_sem,simprocAttr]
 exact h
theorem sortL_c(zs:List (List Int))(hz:0<zs.length)(hn:zs.length≤12)(hel:∀x∈zs,x.length≤1000000){σ:List AObj}{r:Nat}(hg:hget σ r=some (.vec 1 (zs.map ints1))){Q:AV→List AObj→Prop}(h:Q (.tup []) (hset σ r (.vec 1 ((isort leL zs).map ints1)))) :
  ACalls S 138 [.vec r zs.length,.fn (.func 139) [] []] σ Q:=by
 refine AcE (Tryz.envOK (S:=S) 14 (fun _=>([],[])) fs405 fs405_ok) Tryz.kp138 Tryz.func138 rfl ?_
 have hw:IntKind.u64.wrap (zs.length:Int)=zs.length:=by unfold IntKind.wrap;simp[IntKind.signed,IntKind.bits];omega
 simp -implicitDefEqProofs (maxSteps:=9^9) (disch:=omega) only[go_sem,simprocAttr]
 rw[hw]
 refine len_p zs.length hz (by omega) _ _ ?_
 simp -implicitDefEqProofs (maxSteps:=9^9) (disch:=omega) only[go_sem,simprocAttr]
 refine pdqL_c zs hz hn hel hg ?_
 simp -implicitDefEqProofs (maxSteps:=9^9) (disch:=omega) only[go_sem,simprocAttr]
 exact h
end Go.Proofs
namespace Go.Proofs
open Go Go.Mu
structure Ros.Fit(r:Ros):Prop where
 sets:r.sets.length≤1000000
 ents:r.ents.length≤1000000
 ear:∀x∈r.ents,x.ear.tones.length≤1000000∧x.ear.rds.length≤1000000
theorem Ros.Fit.ok{r:Ros}(h:r.Fit)(hh:headE r=0):r.Ok:=by
 refine⟨?_,by have:=h.ents;omega,h.ear⟩
 by_cases c:1≤r.hands∧r.hands≤4
 ·omega
 ·exfalso
  unfold headE at hh
  rw[if_pos (.inl c)] at hh
  omega
def rosE(r:Ros):Int:=if headE r≠0 then headE r else entsE r
end Go.Proofs
namespace Go.Proofs
open Go Go.Mu Go.Ins
def rosZ:AV:= .agg [.int .i64 0,.int .i64 0,.int .i64 0,.int .i64 0,.list .full 0 [],.list .full 0 [],.list .full 0 []]
def knownE(r:Ros)(ws:List Int):Int:=if rosE r≠0 then rosE r else if firstNZ ws≠0 then firstNZ ws else if explR r (entsL r)=[] then 11 else 0
theorem firstNZ_drop{l:List Int}{i:Nat}(h:i<l.length):firstNZ (l.drop i)=if l[i]=0 then firstNZ (l.drop (i+1)) else l[i]:=by rw[List.drop_eq_getElem_cons h];rfl
theorem explR_len{r:Ros}(hr:r.Head){ds:List (List Int)}:(explR r ds).length≤16*14641:=by
 have key:∀n k,(explF r ds n k).length≤16*14641:=by
  intro n
  induction n with
  | zero=>intro k;simp[explF]
  | succ n ih=>
   intro k
   simp only[explF]
   split
   ·exact ih _
   ·refine Nat.le_trans (addX_len _ _) ?_
    have h1:=foundS_len hr (ds:=ds) (many:=k) (2^r.hands.toNat)
    have hh:=hr.hands
    have hp:(2:Nat)^r.hands.toNat≤2^4:=Nat.pow_le_pow_right (by omega) (by omega)
    have h2:foundS r ds k (2^r.hands.toNat)=foundR r ds k:=rfl
    rw[h2] at h1
    simp only[List.length_nil]
    omega
 exact key _ _
theorem known_c(r:Ros)(hf:r.Fit)(ws:List Int)(hws:ws.length≤1000){σ:List AObj}{Q:AV→List AObj→Prop}
  (hE:knownE r ws≠0→∀j,Q (.tup [rosZ,.nilmap,.int .i64 (knownE r ws)]) (σ++j))
  (hO:knownE r ws=0→r.Good→∀a j,σ.length≤a→hget (σ++j) a=some (.map (mapX (explR r (entsL r))))→Q (.tup [r.wav (entsL r),.map a,.int .i64 0]) (σ++j)) :
  ACalls SBes 84 [r.av,.list .no 1 (ws.map (.int .i64))] σ Q:=by
 refine AcE (Tryz.envOK (S:=SBes) 40 (fun _=>([],[])) fs0 fs0_ok) Tryz.kp84 Tryz.func84 rfl ?_
 by_cases hh:headE r=0
 ·by_cases he:entsE r=0
  ·have hg:=r.good_of hh he
   have hro:rosE r=0:=by unfold rosE;rw[if_neg (fun h=>h hh)];exact he
   have hkE:knownE r ws=if firstNZ ws≠0 then firstNZ ws else if explR r (entsL r)=[] then 11 else 0:=by unfold knownE;rw[if_neg (fun h=>h hro)]
   simp only[Ros.av]
   simp -implicitDefEqProofs (maxSteps:=9^9) (disch:=omega) only[go_sem,simprocAttr]
   refine rosterOf_ok r hh (by have:=hf.sets;omega) (hf.ok hh) _ _ ?_
   rw[he]
   simp only[Ros.wav]
   simp -implicitDefEqProofs (maxSteps:=9^9) (disch:=omega) only[go_sem,simprocAttr]
   refine ARun.countA ws.length (fun i τ=>firstNZ (ws.drop i)=firstNZ ws∧τ=σ++[.cells [.int .i64 r.hands,.int .i64 r.skill,.int .i64 r.mn,.int .i64 r.mx,.list .no 2 (r.sets.map Sg.av),.list .no 6 (r.ents.map Tn.av)],.cells [.int .i64 0,.int .i64 0,.int .i64 0,.int .i64 0,.list .full 0 [],.list .full 0 [],.list .full 0 []],.cells (r.wcells (entsL r))]) (fun i=>[(23,.int .i64 i)]) (by simp[upd,ins,subF,lookA]) ⟨by simp,by simp[Ros.wcells]⟩ ?_ ?_
   ·rintro i τ hi ⟨hp,rfl⟩ ih
    rw[firstNZ_drop hi] at hp
    refine ev_sound (Tryz.envOK (S:=SBes) 40 (fun _=>([],[])) fs0 fs0_ok) (n:=1000) (by kernel_rfl) ?_
    by_cases hz:ws[i]=0
    ·rw[if_pos hz] at hp
     simp -implicitDefEqProofs (maxSteps:=9^9) (disch:=omega) only[go_sem,simprocAttr,hz]
     exact(ih _ ⟨hp,rfl⟩).castS rfl (by simp[upd,ins,subF,lookA])
    ·rw[if_neg hz] at hp
     have hz':(ws[i]=0)=False:=eq_false hz
     have hk1:knownE r ws=ws[i]:=by rw[hkE,← hp,if_pos hz]
     simp -implicitDefEqProofs (maxSteps:=9^9) (disch:=omega) only[go_sem,simprocAttr,hz']
     have:=hE (by rw[hk1];exact hz)
     rw[hk1] at this
     exact this _
   ·rintro τ ⟨hp,rfl⟩
    rw[List.drop_length] at hp
    have hf0:firstNZ ws=0:=hp.symm
    refine ev_sound (Tryz.envOK (S:=SBes) 40 (fun _=>([],[])) fs0 fs0_ok) (n:=9) (by kernel_rfl) ?_
    simp -implicitDefEqProofs (maxSteps:=9^9) (disch:=omega) only[go_sem,simprocAttr,Ros.wcells]
    refine expl_c r (entsL r) hg.work fun j2=>?_
    simp only[List.append_assoc,List.cons_append,List.nil_append,List.length_append,List.length_cons,List.length_nil,Nat.zero_add,Nat.reduceAdd,Nat.add_assoc]
    simp -implicitDefEqProofs (maxSteps:=9^9) (disch:=omega) only[go_sem,simprocAttr,Ros.wcells]
    change ARun _ _ _ _ _ _
    refine ARun.regionM (Tryz.envOK (S:=SBes) 40 (fun _=>([],[])) fs0 fs0_ok) 1 ?_
    have hml:(mapX (explR r (entsL r))).length=(explR r (entsL r)).length:=by simp[mapX]
    by_cases hz:explR r (entsL r)=[]
    ·have hk1:knownE r ws=11:=by rw[hkE,hf0,if_neg (by simp),if_pos hz]
     have hl0:(explR r (entsL r)).length=0:=by rw[hz];rfl
     simp -implicitDefEqProofs (maxSteps:=9^9) (disch:=omega) only[go_sem,simprocAttr,Ros.wcells,hml,hl0]
     refine ev_sound (Tryz.envOK (S:=SBes) 40 (fun _=>([],[])) fs0 fs0_ok) (n:=1000) (by kernel_rfl) ?_
     simp -implicitDefEqProofs (maxSteps:=9^9) (disch:=omega) only[go_sem,simprocAttr,Ros.wcells,hml,hl0]
     have:=hE (by rw[hk1];decide)
     rw[hk1] at this
     exact this _
    ·have hk1:knownE r ws=0:=by rw[hkE,hf0,if_neg (by simp),if_neg hz]
     have hpos:0<(explR r (entsL r)).length:=List.length_pos_iff.2 hz
     have hl0:(((explR r (entsL r)).length:Int)=0)=False:=by simp;exact hz
     have hO':=hO hk1 hg
     simp -implicitDefEqProofs (maxSteps:=9^9) (disch:=omega) only[go_sem,simprocAttr,Ros.wcells,hml,hl0]
     refine ev_sound (Tryz.envOK (S:=SBes) 40 (fun _=>([],[])) fs0 fs0_ok) (n:=1000) (by kernel_rfl) ?_
     simp -implicitDefEqProofs (maxSteps:=9^9) (disch:=omega) only[go_sem,simprocAttr,Ros.wcells,hml,hl0]
     exact hO' (σ.length+4) _ (by omega) (by simp[hget_at])
  ·have hro:rosE r≠0:=by unfold rosE;rw[if_neg (fun h=>h hh)];exact he
   have hk1:knownE r ws=entsE r:=by unfold knownE;rw[if_pos hro];unfold rosE;rw[if_neg (fun h=>h hh)]
   have he':(entsE r=0)=False:=eq_false he
   simp only[Ros.av]
   simp -implicitDefEqProofs (maxSteps:=9^9) (disch:=omega) only[go_sem,simprocAttr]
   refine rosterOf_ok r hh (by have:=hf.sets;omega) (hf.ok hh) _ _ ?_
   simp only[Ros.wav]
   simp -implicitDefEqProofs (maxSteps:=9^9) (disch:=omega) only[go_sem,simprocAttr,he']
   have:=hE (by rw[hk1];exact he)
   rw[hk1] at this
   exact this _
 ·have hro:rosE r≠0:=by unfold rosE;rw[if_pos hh];exact hh
  have hk1:knownE r ws=headE r:=by unfold knownE;rw[if_pos hro];unfold rosE;rw[if_pos hh]
  have hh':(headE r=0)=False:=eq_false hh
  simp only[Ros.av]
  simp -implicitDefEqProofs (maxSteps:=9^9) (disch:=omega) only[go_sem,simprocAttr]
  refine rosterOf_err r hh (by have:=hf.sets;omega) (by have:=hf.ents;omega) _ _ ?_
  simp only[Ros.wav]
  simp -implicitDefEqProofs (maxSteps:=9^9) (disch:=omega) only[go_sem,simprocAttr,hh']
  have:=hE (by rw[hk1];exact hh)
  rw[hk1] at this
  exact this _
end Go.Proofs
namespace Go.Proofs
open Go Go.Mu Go.Ins
variable {S:MC Tryz.prog}
def mapS(l:List Nat):List (AV×AV):=l.map fun(s:Nat)=>(.int .u64 (s:Int),.bool true)
theorem keyS(a b:Nat):keyEq (.int .u64 (a:Int)) (.int .u64 (b:Int))=some (decide (a=b)):=by
 simp only[keyEq,if_true,Option.some.injEq]
 rw[Bool.eq_iff_iff]
 simp[Int.ofNat_inj]
theorem findS{s:Nat}:∀{m:List Nat} {i:Nat},(s∉m→findA (.int .u64 (s:Int)) (mapS m) i=some none)∧(s∈m→∃j,findA (.int .u64 (s:Int)) (mapS m) i=some (some (j,.bool true)))
 | [],i=>⟨fun _=>rfl,fun h=>by simp at h⟩
 | y::m,i=>by
  obtain⟨h1,h2⟩:=@findS s m (i+1)
  simp only[mapS,List.map_cons,findA,keyS] at h1 h2⊢
  by_cases e:s=y
  ·subst e
   rw[decide_eq_true rfl]
   exact⟨fun h=>absurd (by simp) h,fun _=>⟨i,rfl⟩⟩
  ·rw[decide_eq_false e]
   exact⟨fun h=>h1 (fun hm=>h (by simp[hm])),fun h=>h2 ((List.mem_cons.1 h).resolve_left e)⟩
theorem lookS{s:Nat}{m:List Nat}{σ:List AObj}:lookR false (.bool false) σ (findA (.int .u64 (s:Int)) (mapS m) 0)=some (.bool (decide (s∈m)),σ):=by
 by_cases h:s∈m
 ·obtain⟨j,hj⟩:=(@findS s m 0).2 h
  rw[hj,decide_eq_true h];rfl
 ·rw[(@findS s m 0).1 h,decide_eq_false h];rfl
theorem updS{s:Nat}{m:List Nat}{r:Nat}{σ:List AObj}(h:s∉m):updR r (mapS m) (.int .u64 (s:Int)) (.bool true) σ (findA (.int .u64 (s:Int)) (mapS m) 0)=some (.tup [],hset σ r (.map (mapS (m++[s])))):=by
 rw[(@findS s m 0).1 h]
 simp[updR,mapS]
def driftsL(L:List (List Int)):List Nat:=(L.map driftN).foldl addX []
def setsL(L:List (List Int)):List (List Int):=isort leL ((driftsL L).map listN)
theorem driftsL_perm{L M:List (List Int)}(h:∀s,(∃x∈L,driftN x=s)↔∃x∈M,driftN x=s):(driftsL L).Perm (driftsL M):=by
 unfold driftsL
 rw[List.perm_ext_iff_of_nodup (addX_nodup List.nodup_nil) (addX_nodup List.nodup_nil)]
 intro s
 simp only[addX_mem,List.not_mem_nil,false_or,List.mem_map]
 exact h s
theorem isort_perm_eq{a b:List (List Int)}(h:a.Perm b):isort leL a=isort leL b:=
 isort_eq leL_trans leL_total (fun x y=>leL_anti) (isort_pair leL_trans leL_total a) ((isort_perm a).trans h)
theorem driftsL_snoc{L:List (List Int)}{x:List Int}:driftsL (L++[x])=addX (driftsL L) (driftN x):=by
 unfold driftsL;rw[List.map_append,List.foldl_append];rfl
theorem listN_len(s:Nat):(listN s).length≤4:=by
 unfold listN;rw[List.length_map];exact Nat.le_trans (List.length_filter_le _ _) (by simp)
theorem sets_c(L:List (List Int))(hL:∀x∈L,x.length=4)(hne:L≠[])(hlen:L.length≤1000000)(h12:(driftsL L).length≤12){a:Nat}{σ:List AObj}(ha:hget σ a=some (.map (mapX L))){Q:AV→List AObj→Prop}(hQ:Q (.list .no 1 ((setsL L).map ints1)) σ) :
  ACalls S 85 [.map a] σ Q:=by
 refine ACalls.clean ?_
 refine ACalls.froze ?_
 refine AcE (Tryz.envOK (S:=S) 30 (fun _=>([],[])) fs405 fs405_ok) Tryz.kp85 Tryz.func85 rfl ?_
 have hal:=hget_lt ha
 have hal1:∀l,hget (σ++l) a=some (.map (mapX L)):=fun l=>by rw[hget_app hal];exact ha
 have hml:(mapX L).length=L.length:=by simp[mapX]
 simp -implicitDefEqProofs (maxSteps:=9^9) (disch:=omega) only[go_sem,simprocAttr,hal1,hml]
 refine ARun.ghostV 4 1 (sz0:=0) rfl (by simp[lookA]) ?_
 simp only[ins,↓reduceIte,List.append_assoc,List.cons_append,List.nil_append,List.length_append,List.length_cons,List.length_nil,Nat.zero_add,Nat.reduceEqDiff,Nat.reduceAdd]
 refine ARun.loopJ (Tryz.envOK (S:=S) 30 (fun _=>([],[])) fs405 fs405_ok) (α:=List Nat) (fun a=>L.length-a.length) (fun seen τ=>(∃j,τ=σ++(.map (mapS (driftsL (seen.map fun i=>L.getD i []))):: .iter (some a) L.length seen:: .vec 1 ((driftsL (seen.map fun i=>L.getD i [])).map fun s=>ints1 (listN s))::j))∧seen.Nodup∧∀i∈seen,i<L.length) (fun seen=>[(4,.vec (σ.length+2) (driftsL (seen.map fun i=>L.getD i [])).length)]) [] (by kernel_rfl) (by simp[upd,ins,subF,lookA,driftsL]) ⟨⟨[],by simp[driftsL,mapS]⟩,by simp,by simp⟩ ?_
 rintro seen τ ⟨⟨j,rfl⟩,hnd,hlt⟩ ih
 have hsl:=seen_len hnd hlt
 have hdl:(driftsL (seen.map fun i=>L.getD i [])).length≤seen.length:=by
  have:=addX_len ((seen.map fun i=>L.getD i []).map driftN) ([]:List Nat)
  simpa[driftsL] using this
 simp -implicitDefEqProofs (maxSteps:=9^9) (disch:=omega) only[go_sem,simprocAttr]
 refine nextA_intro (q:=a) (c:=L.length) (seen:=seen) (es:=mapX L) (by rw[hget_at];rfl) (hal1 _) hml.symm (fun i2 k v hi2 hns=>?_) (fun hall=>?_)
 ·obtain⟨x,hx,hkv⟩:∃x,L[i2]? = some x∧(rtv x,AV.bool true)=(k,v):=by simpa[mapX] using hi2
  simp only[Prod.mk.injEq] at hkv
  obtain⟨rfl,rfl⟩:=hkv
  have hil:=(List.getElem?_eq_some_iff.1 hx).1
  have hxm:x∈L:=List.mem_of_getElem? hx
  have hgd:L.getD i2 []=x:=by rw[List.getD_eq_getElem?_getD,hx];rfl
  have hgl:(seen++[i2]).getLast? = some i2:=by simp
  have hnd2:(seen++[i2]).Nodup:=by
   rw[List.nodup_append]
   exact⟨hnd,by simp,fun a ha b hb e=>by simp at hb;subst hb;exact hns (e▸ha)⟩
  have hlt2:∀i∈seen++[i2],i<L.length:=fun i hi=>by
   rcases List.mem_append.1 hi with hi | hi
   ·exact hlt i hi
   ·simp at hi;omega
  have hsl2:=seen_len hnd2 hlt2
  rw[List.length_append,List.length_singleton] at hsl2
  have ih2:=ih (seen++[i2])
  have hmm:(seen++[i2]).map (fun i=>L.getD i [])=seen.map (fun i=>L.getD i [])++[x]:=by rw[List.map_append];simp only[List.map_cons,List.map_nil,hgd]
  rw[hmm,driftsL_snoc] at ih2
  clear hmm
  generalize driftsL (seen.map fun i=>L.getD i [])=S at hdl ih2⊢
  obtain⟨b,c,d,e,rfl⟩:=len4 (hL x hxm)
  simp only[rtv,List.map_cons,List.map_nil] at hi2
  have hs16:=driftN_lt [b,c,d,e]
  simp -implicitDefEqProofs (maxSteps:=9^9) (disch:=omega) only[go_sem,simprocAttr,hal1,hgl,hi2,hml]
  refine drifting_p [b,c,d,e] rfl _ _ ?_
  generalize driftN [b,c,d,e]=s at hs16 ih2⊢
  by_cases hm:s∈S
  ·have hlk:∀σ,lookR false (.bool false) σ (findA (.int .u64 (s:Int)) (mapS S) 0)=some (.bool true,σ):=fun _=>by rw[lookS,decide_eq_true hm]
   rw[show addX S s=S from if_pos hm] at ih2
   simp -implicitDefEqProofs (maxSteps:=9^9) (disch:=omega) only[go_sem,simprocAttr,hal1,hgl,hi2,hml,hlk]
   refine(ih2 _ (by rw[List.length_append,List.length_singleton];omega) ⟨⟨j++[.cells [.int .i64 b,.int .i64 c,.int .i64 d,.int .i64 e]],rfl⟩,hnd2,hlt2⟩).castS rfl (by simp[upd,ins,subF,lookA])
  ·have hlk:∀σ,lookR false (.bool false) σ (findA (.int .u64 (s:Int)) (mapS S) 0)=some (.bool false,σ):=fun _=>by rw[lookS,decide_eq_false hm]
   have hup:=fun(r:Nat) (σ:List AObj)=>@updS s S r σ hm
   rw[show addX S s=S++[s] from if_neg hm] at ih2
   simp -implicitDefEqProofs (maxSteps:=9^9) (disch:=omega) only[go_sem,simprocAttr,hal1,hgl,hi2,hml,hlk,hup]
   refine list_p s hs16 _ _ ?_
   simp -implicitDefEqProofs (maxSteps:=9^9) (disch:=omega) only[go_sem,simprocAttr,hal1,hgl,hi2,hml,ints1]
   refine(ih2 _ (by rw[List.length_append,List.length_singleton];omega) ⟨⟨j++[.cells [.int .i64 b,.int .i64 c,.int .i64 d,.int .i64 e]],rfl⟩,hnd2,hlt2⟩).castS (by simp[ints1]) (by simp[upd,ins,subF,lookA])
 ·have hall':∀i,i<L.length→i∈seen:=fun i hi=>hall i (by rw[hml];exact hi)
  have hps:=seen_perm ([]:List Int) hnd hlt hall'
  have hpd:(driftsL (seen.map fun i=>L.getD i [])).Perm (driftsL L):=driftsL_perm fun s=>⟨fun⟨x,hx,e⟩=>⟨x,hps.mem_iff.1 hx,e⟩,fun⟨x,hx,e⟩=>⟨x,hps.mem_iff.2 hx,e⟩⟩
  have hpos:0<(driftsL L).length:=by
   obtain⟨x,hx⟩:=List.exists_mem_of_ne_nil _ hne
   exact List.length_pos_iff.2 (List.ne_nil_of_mem (addX_mem.2 (.inr (List.mem_map.2 ⟨x,hx,rfl⟩)):driftN x∈driftsL L))
  have hso:isort leL ((driftsL (seen.map fun i=>L.getD i [])).map listN)=setsL L:=isort_perm_eq (hpd.map listN)
  rw[← hpd.length_eq] at h12 hpos
  rw[← hso] at hQ
  clear hpd hso hps ih
  generalize driftsL (seen.map fun i=>L.getD i [])=T at *
  have e2:(T.map fun s=>ints1 (listN s))=(T.map listN).map ints1:=by rw[List.map_map];rfl
  have e1:T.length=(T.map listN).length:=by simp
  have hel:∀x∈T.map listN,x.length≤1000000:=fun x hx=>by
   obtain⟨s,_,rfl⟩:=List.mem_map.1 hx
   have:=listN_len s;omega
  rw[e2,e1]
  rw[e1] at h12 hpos
  generalize T.map listN=zs at *
  simp -implicitDefEqProofs (maxSteps:=9^9) (disch:=omega) only[go_sem,simprocAttr]
  refine sortL_c zs hpos h12 hel (by rw[hget_at];rfl) ?_
  simp -implicitDefEqProofs (maxSteps:=9^9) (disch:=omega) only[go_sem,simprocAttr]
  refine⟨σ.length+2,1,(isort leL zs).map ints1,by rw[List.length_map,(isort_perm zs).length_eq],by rw[hget_at];rfl,_,_,hset_at,Weak.refl _,?_,hQ⟩
  exact(Plain.map fun y _=>Plain.cells_list (ints1_good y).2) _
end Go.Proofs
