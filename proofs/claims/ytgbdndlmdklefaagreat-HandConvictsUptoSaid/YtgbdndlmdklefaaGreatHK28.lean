/- Texts of a proof: lemmas. -/
import Derived.Test.YtgbdndlmdklefaaGreatHK27
import Derived.Test.YtgbdndlmdklefaaGreatHK23
import Derived.Test.YtgbdndlmdklefaaGreatHK18
import Derived.Laws.Bits64
import Derived.Laws.BitsLemmas
import Derived.Test.YtgbdndlmdklefaaGreatHK22
set_option linter.unusedSimpArgs false
set_option linter.unusedVariables false
set_option maxRecDepth 100000
set_option maxHeartbeats 40000000
namespace Go.Proofs
open Go Go.Mu
variable {S:MC Tryz.prog}
theorem Jl{e:Ear}(hc:ck e=0)(hn:eT e≠[]):cL e=((List.range e.tones.length).map fun(i:Nat)=>bH (fun t=>tg t i) (eT e),0):=by
 have hL:aF e≠[]:=fun h=>hn (rh.2 h)
 have htk:∀i,i<e.tones.length→∀t,tg (t.take e.tones.length) i=tg t i:=fun i hi t=>Py (by omega) (by omega)
 have hk:cy e=(aF e,0):=by unfold cy;rw[if_neg (by simp[hc]),if_neg hL]
 unfold cL
 rw[if_pos (by rw[hk])]
 congr 1
 refine List.map_congr_left fun i hi=>?_
 exact(TD _ _ hL fun t=>htk i (by simpa using hi) t).symm
theorem J9(e:Ear)(h1:e.tones.length≤4294967296)(h2:e.rds.length≤4294967296):al S 149 [e.av] (.tup [.list .no 2 ((cL e).1.map Rng.av),.int .i64 (cL e).2]):=by
 refine PvE (Tryz.ah (S:=S) 32 (fun _=>([],[])) qz rP) (yX) Tryz.Nt Tryz.func149 rfl ?_
 intro σ
 by_cases hc:ck e=0
 ·have he:=dQ hc
  have hb':=Bm he
  have hR:eW e []=eT e:=rfl
  have hok:=Db he
  have hlen:=he.len
  by_cases hn:eT e=[]
  ·have hd:cL e=([],9):=by
    have hk:cy e=([],9):=by unfold cy;rw[if_neg (by simp[hc]),if_pos (rh.1 hn)]
    unfold cL;rw[hk,if_neg (by decide)]
   rw[hd]
   rw[hn] at hR
   obtain⟨s,ts,rs⟩:=e
   simp only[Ear.av]
   simp only at h1 h2
   simp -implicitDefEqProofs (maxSteps:=9^9) (disch:=omega) only[go_sem,simprocAttr,hc,GN,hR,tss,List.map_nil]
  ·have hd:=Jl hc hn
   rw[hd]
   obtain⟨s,ts,rs⟩:=e
   simp only[Ear.av]
   simp only at h1 h2 hok hlen
   generalize eT ⟨s,ts,rs⟩= L at hb' hR hok hn⊢
   have hL0:¬L.length=0:=fun h=>hn (List.length_eq_zero_iff.1 h)
   have hLn:(L=[])=False:=eq_false hn
   have hin:∀i:Nat,i<ts.length→inT (i:Int) L:=fun i hi t ht=>by rw[(hok t ht).1];omega
   simp -implicitDefEqProofs (maxSteps:=9^9) (disch:=omega) only[go_sem,simprocAttr,hc,GN,hR,tss]
   refine aj.ghost 6 2 (sz0:=0) rfl (by simp[ae]) ?_
   simp only[ins,↓reduceIte,List.append_assoc,List.cons_append,List.nil_append,List.length_append,List.length_cons,List.length_nil,Nat.zero_add,Nat.reduceEqDiff,Nat.reduceAdd]
   refine aj.bE (Tryz.ah (S:=S) 32 (fun _=>([],[])) qz rP) ts.length (fun _=>True) (fun i=>[(6,.list (.own (σ.length+1)) 2 (((List.range i).map fun(i:Nat)=>bH (fun t=>tg t i) L).map Rng.av)),(7,.int .i64 i)]) (fun i j=>σ++(.cells [.int .i64 s,.list .no 2 (ts.map Rng.av),.list .no 6 (rs.map Rd.av)]:: .tail i 2::j)) [] (by kernel_rfl) (by simp) (by simp[upd,ins,aw,ae]) trivial ?_ ?_
   ·intro i j hi _ ih
    have hini:=hin i hi
    rw[List.range_succ,List.map_append] at ih
    have hBl:((List.range i).map fun(i:Nat)=>bH (fun t=>tg t i) L).length=i:=by simp
    generalize ((List.range i).map fun(i:Nat)=>bH (fun t=>tg t i) L)=B at hBl ih⊢
    obtain⟨s1,s2,hsp⟩:∃a b,bH (fun t=>tg t i) L=⟨a,b⟩:=⟨_,_,rfl⟩
    simp only[List.map_cons,List.map_nil,hsp] at ih
    simp -implicitDefEqProofs (maxSteps:=9^9) (disch:=omega) only[go_sem,simprocAttr,hn,hini,hsp,tss,Rng.av]
    exact(ih trivial j).ay (by simp[hBl]) (by simp[upd,ins,aw,ae,Rng.av])
   ·intro j _
    simp -implicitDefEqProofs (maxSteps:=9^9) (disch:=omega) only[go_sem,simprocAttr]
 ·have hd:cL e=([],ck e):=by
   have hk:cy e=([],ck e):=by unfold cy;rw[if_pos hc]
   unfold cL;rw[hk,if_neg hc]
  rw[hd]
  obtain⟨s,ts,rs⟩:=e
  simp only[Ear.av]
  simp only at h1 h2
  generalize hq:ck ⟨s,ts,rs⟩= q at hc
  simp -implicitDefEqProofs (maxSteps:=9^9) (disch:=omega) only[go_sem,simprocAttr,hq]
def r8:=jh lp fun e=>if e.tones.length≤4294967296∧e.rds.length≤4294967296 then some (.tup [.list .no 2 ((cL e).1.map Rng.av),.int .i64 (cL e).2]) else none
theorem F2:∀xs v,r8 xs=some v→al S 149 xs v:=
 gB fun e v h=>by have h:=b7 h;rw[← h.2];exact J9 e h.1.1 h.1.2
def eB(m:Nat):Nat:=if h:m=0 then 0 else m%2+eB (m/2)
termination_by m
decreasing_by omega
theorem vW:eB 0=0:=by rw[eB];rfl
theorem H2(m:Nat):eB m=m%2+eB (m/2):=by
 by_cases h:m=0
 ·subst h;rw[vW]
 ·rw[eB,dif_neg h]
def kF(x:Nat):Nat:=
 let a:=((x/2&&&6148914691236517205)+(x&&&6148914691236517205))%18446744073709551616
 let b:=((a/4&&&3689348814741910323)+(a&&&3689348814741910323))%18446744073709551616
 let c:=(b/16+b)%18446744073709551616&&&1085102592571150095
 let d:=(c+c/256)%18446744073709551616
 let e:=(d+d/65536)%18446744073709551616
 let g:=(e+e/4294967296)%18446744073709551616
 g&&&127
def yD(f:Nat→Bool):Nat→Nat→Bool
 | 0,b=>f b
 | k+1,b=>yD f k (2*b)&&yD f k (2*b+1)
theorem sA{f:Nat→Bool}:∀{k b:Nat},yD f k b=true→∀i,i<2^k→f (b*2^k+i)=true
 | 0,b,h,i,hi=>by
  have:i=0:=by simpa using hi
  subst this
  rw[Nat.pow_zero,Nat.mul_one,Nat.add_zero];exact h
 | k+1,b,h,i,hi=>by
  simp only[yD,Bool.and_eq_true] at h
  rw[Nat.pow_succ] at hi⊢
  by_cases hl:i<2^k
  ·have:=sA h.1 i hl
   rwa [show 2*b*2^k=b*(2^k*2) by rw[Nat.mul_comm 2 b,Nat.mul_assoc,Nat.mul_comm 2]] at this
  ·have:=sA h.2 (i-2^k) (by omega)
   have e:(2*b+1)*2^k+(i-2^k)=b*(2^k*2)+i:=by
    rw[Nat.add_mul,Nat.mul_comm 2 b,Nat.mul_assoc,Nat.mul_comm 2,Nat.one_mul];omega
   rwa [e] at this
set_option maxRecDepth 1000000 in
theorem Lk:yD (fun x=>Nat.beq (kF x) (x%2+kF (x/2))) 16 0=true:=by kernel_rfl
theorem gZ:∀x,x<65536→kF x=eB x:=by
 intro x
 induction x using Nat.strongRecOn with
 | _ x ih=>
  intro hx
  by_cases h0:x=0
  ·subst h0;rw[vW];rfl
  ·have h1:=sA Lk x (by omega)
   rw[Nat.zero_mul,Nat.zero_add] at h1
   have h2:=Nat.eq_of_beq_eq_true h1
   rw[h2,H2 x,ih (x/2) (by omega) (by omega)]
theorem kv(a:Nat):BitVec.ofInt 64 (a:Int)=BitVec.ofNat 64 a:=by simp
theorem Cb(a M:Nat)(hM:M<2^64):(BitVec.ofNat 64 a&&&BitVec.ofNat 64 M).toNat=a&&&M:=by
 rw[BitVec.toNat_and,BitVec.toNat_ofNat,BitVec.toNat_ofNat]
 apply Nat.eq_of_testBit_eq
 intro i
 simp only[Nat.testBit_and,Nat.testBit_mod_two_pow]
 by_cases h:i<64
 ·simp[h]
 ·have:M.testBit i=false:=Nat.testBit_lt_two_pow (Nat.lt_of_lt_of_le hM (Nat.pow_le_pow_right (by omega) (by omega)))
  simp[this]
theorem jO(a:Nat)(k:Nat):((a:Nat):Int).fdiv (2^k)=((a/2^k:Nat):Int):=by
 rw[Int.fdiv_eq_ediv_of_nonneg _ (Int.le_of_lt (Int.pow_pos (by omega)))]
 push_cast;rfl
theorem FA(z:Int):BitVec.ofInt 64 (IntKind.i64.wrap z)=BitVec.ofInt 64 z:=by
 apply BitVec.eq_of_toNat_eq
 rw[BitVec.toNat_ofInt,BitVec.toNat_ofInt,IntKind.wrap_i64]
 have:(2^64:Int)=18446744073709551616:=by decide
 simp only[Nat.reducePow,Int.cast_ofNat_Int]
 omega
theorem Pd(g:Nat):IntKind.i64.wrap (((BitVec.ofInt 64 (IntKind.i64.wrap (g:Int))&&&BitVec.ofInt 64 127).toNat:Nat):Int)=((g&&&127:Nat):Int):=by
 have e:BitVec.ofInt 64 127=BitVec.ofNat 64 127:=rfl
 rw[FA,kv,e,Cb g 127 (by decide),IntKind.wrap_i64]
 have:g&&&127≤127:=Nat.and_le_right
 omega
theorem nk(a:Nat):IntKind.u64.wrap ((a:Nat):Int)=((a%18446744073709551616:Nat):Int):=by rw[IntKind.wrap_u64];omega
theorem OJ(a b:Nat):IntKind.u64.wrap ((a:Int)+(b:Int))=(((a+b)%18446744073709551616:Nat):Int):=by rw[IntKind.wrap_u64];omega
theorem u64_and(a M:Nat)(hM:M<2^64):IntKind.u64.wrap (((BitVec.ofInt 64 (a:Int)&&&BitVec.ofInt 64 (M:Int)).toNat:Nat):Int)=((a&&&M:Nat):Int):=by
 rw[kv,kv,Cb a M hM,nk,Nat.mod_eq_of_lt]
 exact Nat.lt_of_le_of_lt Nat.and_le_right hM
theorem Q8(a:Nat):IntKind.u64.wrap ((BitVec.toNat (w:=64) (@HAnd.hAnd (BitVec 64) (BitVec 64) (BitVec 64) (@instHAndOfAndOp (BitVec IntKind.u64.bits) (@BitVec.instAndOp IntKind.u64.bits)) (BitVec.ofInt 64 (a:Int)) (BitVec.ofInt 64 6148914691236517205)):Nat):Int)=((a&&&6148914691236517205:Nat):Int):=u64_and a 6148914691236517205 (by decide)
theorem QJ(a:Nat):IntKind.u64.wrap ((BitVec.toNat (w:=64) (@HAnd.hAnd (BitVec 64) (BitVec 64) (BitVec 64) (@instHAndOfAndOp (BitVec IntKind.u64.bits) (@BitVec.instAndOp IntKind.u64.bits)) (BitVec.ofInt 64 (a:Int)) (BitVec.ofInt 64 3689348814741910323)):Nat):Int)=((a&&&3689348814741910323:Nat):Int):=u64_and a 3689348814741910323 (by decide)
theorem Rb(a:Nat):IntKind.u64.wrap ((BitVec.toNat (w:=64) (@HAnd.hAnd (BitVec 64) (BitVec 64) (BitVec 64) (@instHAndOfAndOp (BitVec IntKind.u64.bits) (@BitVec.instAndOp IntKind.u64.bits)) (BitVec.ofInt 64 (a:Int)) (BitVec.ofInt 64 1085102592571150095)):Nat):Int)=((a&&&1085102592571150095:Nat):Int):=u64_and a 1085102592571150095 (by decide)
theorem TA(g:Nat):IntKind.i64.wrap ((BitVec.toNat (w:=64) (@HAnd.hAnd (BitVec 64) (BitVec 64) (BitVec 64) (@instHAndOfAndOp (BitVec IntKind.i64.bits) (@BitVec.instAndOp IntKind.i64.bits)) (BitVec.ofInt 64 (IntKind.i64.wrap (g:Int))) (BitVec.ofInt 64 127)):Nat):Int)=((g&&&127:Nat):Int):=Pd g
theorem wN(x:Nat)(hx:x<65536):al S 232 [.int .u64 x] (.int .i64 (eB x)):=by
 refine PvE (Tryz.ah (S:=S) 35 (fun _=>([],[])) fs0 aD) (.int) Tryz.Ns Tryz.func232 rfl ?_
 intro σ
 rw[← gZ x hx]
 have s1:∀a:Nat,((a:Nat):Int).fdiv (2^min 1 64)=((a/2:Nat):Int):=fun a=>jO a 1
 have s2:∀a:Nat,((a:Nat):Int).fdiv (2^min 2 64)=((a/4:Nat):Int):=fun a=>jO a 2
 have s4:∀a:Nat,((a:Nat):Int).fdiv (2^min 4 64)=((a/16:Nat):Int):=fun a=>jO a 4
 have s8:∀a:Nat,((a:Nat):Int).fdiv (2^min 8 64)=((a/256:Nat):Int):=fun a=>jO a 8
 have s16:∀a:Nat,((a:Nat):Int).fdiv (2^min 16 64)=((a/65536:Nat):Int):=fun a=>jO a 16
 have s32:∀a:Nat,((a:Nat):Int).fdiv (2^min 32 64)=((a/4294967296:Nat):Int):=fun a=>jO a 32
 simp -implicitDefEqProofs (maxSteps:=9^9) (disch:=omega) only[go_sem,reduceCtorEq,Nat.reduceAdd,Nat.reduceSub,Nat.reduceMul,Nat.reduceLT,Nat.reduceLeDiff,Nat.reduceEqDiff,Nat.reduceBEq,Int.reduceToNat,Int.reduceLT,Int.reduceLE,Int.reduceEq,Int.reduceNeg,Int.reduceAdd,Int.reduceSub,Int.reduceMul,↓reduceIte,Int.reduceBEq,Int.reduceBNe,s1,s2,s4,s8,s16,s32,Q8,QJ,Rb,OJ,TA]
 simp only[kF]
def u9:List AV→Option AV
 | [.int .u64 z]=>if 0≤z∧z<65536 then some (.int .i64 (eB z.toNat)) else none
 | _=>none
theorem rT{xs:List AV}{v:AV}(h:u9 xs=some v):∃x:Nat,x<65536∧xs=[.int .u64 x]∧v= .int .i64 (eB x):=by
 unfold u9 at h
 split at h
 ·rename_i z
  have h:=b7 h
  refine⟨z.toNat,by omega,?_,h.2.symm⟩
  rw[Int.toNat_of_nonneg h.1.1]
 ·cases h
def zL:=u9
theorem OK:∀xs v,zL xs=some v→al S 232 xs v:=fun xs v h=>by
 obtain⟨x,h1,rfl,rfl⟩:=rT h
 exact wN x h1
def ur(f:FuncId)(xs:List AV):Option AV:=if f=232 then zL xs else kh f xs
theorem yi{S:MC Tryz.prog}:∀f xs v,ur f xs=some v→al S f xs v:=by
 intro f xs v h
 unfold ur at h
 split at h
 ·rename_i e;subst e;exact OK _ _ h
 exact iJ _ _ _ h
attribute [go_sem] ur zL
attribute [go_sem] u9 Int.toNat_natCast
theorem AL(x:Nat)(hx:x<65536):al S 209 [.int .u64 x] (.int .i64 (eB x)):=by
 refine PvE (Tryz.ah (S:=S) 8 (fun _=>([],[])) ur yi) (.int) Tryz.Mj Tryz.func209 rfl ?_
 intro σ
 simp -implicitDefEqProofs (maxSteps:=9^9) (disch:=omega) only[go_sem,reduceCtorEq,Nat.reduceAdd,Nat.reduceSub,Nat.reduceMul,Nat.reduceLT,Nat.reduceLeDiff,Nat.reduceEqDiff,Nat.reduceBEq,Int.reduceToNat,Int.reduceLT,Int.reduceLE,Int.reduceEq,Int.reduceNeg,Int.reduceAdd,Int.reduceSub,Int.reduceMul,↓reduceIte,Int.reduceBEq,Int.reduceBNe]
def Ln:=u9
theorem Tb:∀xs v,Ln xs=some v→al S 209 xs v:=fun xs v h=>by
 obtain⟨x,h1,rfl,rfl⟩:=rT h
 exact AL x h1
def ui(f:FuncId)(xs:List AV):Option AV:=if f=209 then Ln xs else ur f xs
theorem xU{S:MC Tryz.prog}:∀f xs v,ui f xs=some v→al S f xs v:=by
 intro f xs v h
 unfold ui at h
 split at h
 ·rename_i e;subst e;exact Tb _ _ h
 exact yi _ _ _ h
attribute [go_sem] ui Ln
theorem QS(x:Nat)(hx:x<65536):al S 178 [.int .u64 x] (.int .i64 (eB x)):=by
 refine PvE (Tryz.ah (S:=S) 5 (fun _=>([],[])) ui xU) (.int) Tryz.No Tryz.func178 rfl ?_
 intro σ
 simp -implicitDefEqProofs (maxSteps:=9^9) (disch:=omega) only[go_sem,reduceCtorEq,Nat.reduceAdd,Nat.reduceSub,Nat.reduceMul,Nat.reduceLT,Nat.reduceLeDiff,Nat.reduceEqDiff,Nat.reduceBEq,Int.reduceToNat,Int.reduceLT,Int.reduceLE,Int.reduceEq,Int.reduceNeg,Int.reduceAdd,Int.reduceSub,Int.reduceMul,↓reduceIte,Int.reduceBEq,Int.reduceBNe]
def yz:=u9
theorem O4:∀xs v,yz xs=some v→al S 178 xs v:=fun xs v h=>by
 obtain⟨x,h1,rfl,rfl⟩:=rT h
 exact QS x h1
theorem Pl(x n:Nat):(((x/2^n&&&1:Nat):Int)=1)=(x.testBit n=true):=by
 have h1:x.testBit n=(x/2^n%2==1):=by rw[Nat.testBit_eq_decide_div_mod_eq];rfl
 rw[h1,Nat.and_one_is_mod,beq_iff_eq]
 apply propext;omega
theorem TZ(x n:Nat)(hx:x<65536)(hn:n<64):al S 157 [.int .u64 x,.int .i64 n] (.bool (x.testBit n)):=by
 refine PvE (Tryz.ah (S:=S) 10 (fun _=>([],[])) fs0 aD) (.bool) Tryz.MN Tryz.func157 rfl ?_
 intro σ
 simp -implicitDefEqProofs (maxSteps:=9^9) (disch:=omega) only[go_sem,reduceCtorEq,Nat.reduceAdd,Nat.reduceSub,Nat.reduceMul,Nat.reduceLT,Nat.reduceLeDiff,Nat.reduceEqDiff,Nat.reduceBEq,Int.reduceToNat,Int.reduceLT,Int.reduceLE,Int.reduceEq,Int.reduceNeg,Int.reduceAdd,Int.reduceSub,Int.reduceMul,↓reduceIte,Int.reduceBEq,Int.reduceBNe]
 have e1:min n 64=n:=by omega
 have e2:=u64_and (x/2^n) 1 (by decide)
 have e3:((x:Nat):Int).fdiv (2^min n 64)=((x/2^n:Nat):Int):=by rw[e1];exact jO x n
 have e4:IntKind.u64.wrap (((BitVec.ofInt 64 (((x:Nat):Int).fdiv (2^min n 64))&&&BitVec.ofInt 64 1).toNat:Nat):Int)=((x/2^n&&&1:Nat):Int):=by rw[e3];exact e2
 have e5:=Pl x n
 refine⟨fun h=>?_,fun h=>?_⟩
 ·have h2:((x/2^n&&&1:Nat):Int)=1:=e4.symm.trans h
  rw[e5] at h2;exact h2.symm
 ·have h2:¬((x/2^n&&&1:Nat):Int)=1:=fun e=>h (e4.trans e)
  rw[e5] at h2;exact(Bool.eq_false_iff.2 h2).symm
theorem Ry(x n:Nat)(hx:x<65536)(hn:n<16):al S 106 [.int .u64 x,.int .i64 n] (.int .u64 ((x|||2^n:Nat):Int)):=by
 refine PvE (Tryz.ah (S:=S) 9 (fun _=>([],[])) fs0 aD) (.int) Tryz.Md Tryz.func106 rfl ?_
 intro σ
 simp -implicitDefEqProofs (maxSteps:=9^9) (disch:=omega) only[go_sem,reduceCtorEq,Nat.reduceAdd,Nat.reduceSub,Nat.reduceMul,Nat.reduceLT,Nat.reduceLeDiff,Nat.reduceEqDiff,Nat.reduceBEq,Int.reduceToNat,Int.reduceLT,Int.reduceLE,Int.reduceEq,Int.reduceNeg,Int.reduceAdd,Int.reduceSub,Int.reduceMul,↓reduceIte,Int.reduceBEq,Int.reduceBNe]
 have e1:min n 64=n:=by omega
 have hp:(2:Nat)^n≤2^15:=Nat.pow_le_pow_right (by omega) (by omega)
 have e2:IntKind.u64.wrap (1*2^min n 64)=((2^n:Nat):Int):=by
  rw[e1,Int.one_mul]
  have:((2:Int)^n)=((2^n:Nat):Int):=by push_cast;rfl
  rw[this,nk,Nat.mod_eq_of_lt (by omega)]
 have e3:IntKind.u64.wrap (((BitVec.ofInt 64 (x:Int)|||BitVec.ofInt 64 ((2^n:Nat):Int)).toNat:Nat):Int)=((x|||2^n:Nat):Int):=by
  rw[kv,kv,BitVec.toNat_or,BitVec.toNat_ofNat,BitVec.toNat_ofNat,Nat.mod_eq_of_lt (by omega),Nat.mod_eq_of_lt (by omega),nk,Nat.mod_eq_of_lt]
  have:x|||2^n<2^16:=Nat.or_lt_two_pow (by omega) (by omega)
  omega
 rw[e2];exact e3
def xE:List AV→Option AV
 | [.int .u64 z,.int .i64 n]=>if(0≤z∧z<65536)∧0≤n∧n<64 then some (.bool (z.toNat.testBit n.toNat)) else none
 | _=>none
theorem QP:∀xs v,xE xs=some v→al S 157 xs v:=fun xs v h=>by
 unfold xE at h
 split at h
 ·rename_i z n
  have h:=b7 h
  rw[← h.2,← Int.toNat_of_nonneg h.1.1.1,← Int.toNat_of_nonneg h.1.2.1]
  simp only[Int.toNat_natCast]
  exact TZ _ _ (by omega) (by omega)
 ·cases h
def sN:List AV→Option AV
 | [.int .u64 z,.int .i64 n]=>if(0≤z∧z<65536)∧0≤n∧n<16 then some (.int .u64 ((z.toNat|||2^n.toNat:Nat):Int)) else none
 | _=>none
theorem OX:∀xs v,sN xs=some v→al S 106 xs v:=fun xs v h=>by
 unfold sN at h
 split at h
 ·rename_i z n
  have h:=b7 h
  rw[← h.2,← Int.toNat_of_nonneg h.1.1.1,← Int.toNat_of_nonneg h.1.2.1]
  simp only[Int.toNat_natCast]
  exact Ry _ _ (by omega) (by omega)
 ·cases h
def cq(f:FuncId)(xs:List AV):Option AV:=if f=178 then yz xs else if f=157 then xE xs else if f=106 then sN xs else ui f xs
theorem bm{S:MC Tryz.prog}:∀f xs v,cq f xs=some v→al S f xs v:=by
 intro f xs v h
 unfold cq at h
 split at h
 ·rename_i e;subst e;exact O4 _ _ h
 split at h
 ·rename_i e;subst e;exact QP _ _ h
 split at h
 ·rename_i e;subst e;exact OX _ _ h
 exact xU _ _ _ h
attribute [go_sem] cq yz xE sN
end Go.Proofs
namespace Go.Proofs
open Go Go.Mu
def dt(h d m:Int)(s:Sg):Int:=if s.hand=h∧s.day≤d then(if m<s.day then s.day else m) else m
def cn(l:List Sg)(h d:Int):Int:=l.foldl (dt h d) 0
theorem mT{h d:Int}:∀(l:List Sg) (m:Int),0≤m→m≤d→0≤l.foldl (dt h d) m∧l.foldl (dt h d) m≤d
 | [],m,h1,h2=>⟨h1,h2⟩
 | s::l,m,h1,h2=>by
  have:0≤dt h d m s∧dt h d m s≤d:=by unfold dt;(repeat' split)<;> omega
  exact mT l _ this.1 this.2
theorem jU{l:List Sg}{h d:Int}(hd:0≤d):0≤cn l h d∧cn l h d≤d:=mT l 0 (Int.le_refl 0) hd
structure Ros.Head(r:Ros):Prop where
 hands:1≤r.hands∧r.hands≤4
 skill:0≤r.skill∧r.skill≤9
 mn: -5≤r.mn∧r.mn≤r.mx∧r.mx≤5
 setl:r.sets.length≤4
 set:∀s∈r.sets,(0≤s.hand∧s.hand<r.hands)∧0≤s.day∧s.day≤60
 entl:r.ents.length≤5
theorem Ros.BQ{r:Ros}(h:bX r=0):r.Head:=by
 unfold bX at h
 split at h
 ·cases h
 rename_i h1
 split at h
 ·cases h
 split at h
 ·cases h
 split at h
 ·rename_i h2;exact absurd h h2
 rename_i h2 h3 h4
 split at h
 ·cases h
 refine⟨by omega,by omega,by omega,by omega,fun s hs=>?_,by omega⟩
 have:=ie (Classical.byContradiction h4) s hs
 unfold eN at this
 split at this
 ·cases this
 split at this
 ·cases this
 omega
theorem kg:∀{l:List Int},bn l=0→∀x∈l,x=0
 | [],_,x,hx=>by simp at hx
 | y::l,h,x,hx=>by
  rw[bn] at h
  split at h
  ·rename_i hy
   rcases List.mem_cons.1 hx with rfl | hx
   ·exact hy
   ·exact kg h x hx
  ·rename_i hy;exact absurd h hy
structure Ros.Good(r:Ros):Prop extends r.Head where
 ent:∀x∈r.ents,(0≤x.day∧x.day≤60)∧(-1≤x.hand∧x.hand<r.hands)∧(1≤x.due∧x.due≤100000)∧ck x.ear=0∧x.ear.tones.length≤1∧(c8 x.ear (dq x.ear 0)).2=0
theorem Qp{x:Tn}{h:Int}(he:(bS x h).2=0):(0≤x.day∧x.day≤60)∧(-1≤x.hand∧x.hand<h)∧(1≤x.due∧x.due≤100000)∧ck x.ear=0∧x.ear.tones.length≤1∧(c8 x.ear (dq x.ear 0)).2=0:=by
 unfold bS at he
 split at he
 ·cases he
 split at he
 ·cases he
 split at he
 ·cases he
 split at he
 ·rename_i h4;exact absurd he h4
 split at he
 ·cases he
 rename_i h1 h2 h3 h4 h5
 refine⟨by omega,by omega,by omega,by omega,by omega,?_⟩
 simp only at he
 unfold bC at he
 split at he
 ·assumption
 ·rename_i h6;exact absurd he h6
theorem Ros.uX{r:Ros}(h:bX r=0)(he:gA r=0):r.Good:=
 ⟨r.BQ h,fun x hx=>Qp (kg he _ (List.mem_map.2 ⟨x,hx,rfl⟩))⟩
theorem Hd{x:Tn}{h:Int}(hd:1≤x.due∧x.due≤100000)(hk:ck x.ear=0)(ha:(c8 x.ear (dq x.ear 0)).2=0)(ht:x.ear.tones.length≤1):(∀y∈(bS x h).1, -2000000≤y∧y≤2000000)∧(bS x h).1.length≤1000000:=by
 have hv:=tA hk ha ht
 unfold bS
 repeat' split
 all_goals first
  | exact⟨fun y hy=>absurd hy List.not_mem_nil,Nat.zero_le _⟩
  | (refine⟨fun y hy=>?_,by simpa using hv.2⟩;obtain⟨z,hz,rfl⟩:=List.mem_map.1 hy;have:=hv.1 z hz;omega)
theorem Ros.Good.VE{r:Ros}(h:r.Good):∀l∈aq r,(∀y∈l, -2000000≤y∧y≤2000000)∧l.length≤1000000:=by
 intro l hl
 obtain⟨x,hx,rfl⟩:=List.mem_map.1 hl
 obtain⟨_,_,h3,h4,h5,h6⟩:=h.ent x hx
 exact Hd h3 h4 h6 h5
theorem we(r:Ros):(aq r).length=r.ents.length:=by simp[aq]
def rtv(x:List Int):AV:= .agg (x.map (.int .i64))
theorem Hi(x:List Int):Plain (rtv x):= .agg (by intro v hv;obtain⟨z,_,rfl⟩:=List.mem_map.1 hv;exact .int)
structure OkX(r:Ros)(x:List Int):Prop where
 len:x.length=4
 rate:∀n∈x, -5≤n∧n≤5
theorem OkX.at{r:Ros}{x:List Int}(h:OkX r x)(i:Int): -5≤tg x i∧tg x i≤5:=by
 unfold tg
 rw[List.getD_eq_getElem?_getD]
 cases he:x[i.toNat]? with
 | none=>simp
 | some n=>simpa using h.rate n (List.mem_of_getElem? he)
def cS(r:Ros)(x:List Int)(h d:Int):Int:=tg x h*(d-cn r.sets h d)
theorem qu{r:Ros}{x:List Int}(hx:OkX r x){h d:Int}(hd:0≤d∧d≤60): -300≤cS r x h d∧cS r x h d≤300:=by
 have h1:=hx.at h
 have h2:=@jU r.sets h d hd.1
 unfold cS
 generalize tg x h=a at *
 have h3:0≤d-cn r.sets h d∧d-cn r.sets h d≤60:=by omega
 generalize d-cn r.sets h d=b at *
 rcases(by omega:a= -5∨a= -4∨a= -3∨a= -2∨a= -1∨a=0∨a=1∨a=2∨a=3∨a=4∨a=5) with rfl | rfl | rfl | rfl | rfl | rfl | rfl | rfl | rfl | rfl | rfl<;> omega
instance : Inhabited Tn:=⟨⟨0,0,0,default⟩⟩
def byB(r:Ros)(ds:List (List Int))(x:List Int)(i:Nat)(h:Int):Bool:=
 if 0≤(r.ents.getD i default).hand∧(r.ents.getD i default).hand≠h then false
 else(ds.getD i []).any fun d=>decide (-r.skill≤d-cS r x h (r.ents.getD i default).day∧d-cS r x h (r.ents.getD i default).day≤r.skill)
def isB(r:Ros)(ds:List (List Int))(x:List Int):Bool:=(List.range r.ents.length).all fun i=>(List.range r.hands.toNat).any fun h=>byB r ds x i h
def dW(r:Ros)(s:Nat):Nat→List Int→Nat→List (List Int)
 | 0,x,_=>[x]
 | m+1,x,a=>if s.testBit a then(List.range (r.mx-r.mn+1).toNat).flatMap fun(k:Nat)=>if r.mn+k=0 then[] else dW r s m (bG x a (r.mn+k)) (a+1) else dW r s m x (a+1)
def dw(r:Ros)(ds:List (List Int))(s:Nat):List (List Int):=(dW r s r.hands.toNat [0,0,0,0] 0).filter (isB r ds)
end Go.Proofs
namespace Go.Proofs
open Go Go.Mu
variable {S:MC Tryz.prog}
theorem jo{α β:Type}{f:β→α→β}{b:β}{l:List α}{i:Nat}(h:i<l.length):(l.take (i+1)).foldl f b=f ((l.take i).foldl f b) l[i]:=by
 rw[List.take_succ_eq_append_getElem h,List.foldl_append];rfl
theorem vE(r:Ros)(ds:List (List Int))(hr:r.Head)(h d:Int)(hd:0≤d∧d≤60):al S 144 [r.wav ds,.int .i64 h,.int .i64 d] (.int .i64 (d-cn r.sets h d)):=by
 refine PvE (Tryz.ah (S:=S) 36 (fun _=>([],[])) cq bm) (.int) Tryz.Na Tryz.func144 rfl ?_
 intro σ
 obtain⟨hands,skill,mn,mx,sets,ents⟩:=r
 have hl:=hr.setl
 simp only[Ros.wav] at hl⊢
 simp -implicitDefEqProofs (maxSteps:=9^9) (disch:=omega) only[go_sem,simprocAttr]
 refine aj.bE (Tryz.ah (S:=S) 36 (fun _=>([],[])) cq bm) sets.length (fun _=>True) (fun i=>[(7,.int .i64 ((sets.take i).foldl (dt h d) 0)),(14,.int .i64 i)]) (fun _ j=>σ++(.cells [.int .i64 hands,.int .i64 skill,.int .i64 mn,.int .i64 mx,.list .no 2 (sets.map Sg.av),.list .no 6 (ents.map Tn.av),.list .no 1 (ds.map ar)]::j)) [] (by kernel_rfl) (by simp) (by simp[upd,ins,aw,ae]) trivial ?_ ?_
 ·intro i j hi _ ih
  rw[jo hi] at ih
  obtain⟨f1,f2⟩:=@mT h d (sets.take i) 0 (Int.le_refl 0) hd.1
  generalize (sets.take i).foldl (dt h d) 0=m at *
  simp -implicitDefEqProofs (maxSteps:=9^9) (disch:=omega) only[go_sem,simprocAttr,Sg.av]
  refine⟨fun p1=>⟨fun p2=>?_,fun p2=>?_⟩,fun p1=>?_⟩
  ·exact(ih trivial (j++[_])).ay rfl (by simp[upd,ins,aw,ae,dt,p1,p2])
  ·exact(ih trivial (j++[_])).ay rfl (by simp[upd,ins,aw,ae,dt,p1,p2])
  ·exact(ih trivial (j++[_])).ay rfl (by simp[upd,ins,aw,ae,dt,p1])
 ·intro j _
  rw[List.take_length]
  obtain⟨f1,f2⟩:=@mT h d sets 0 (Int.le_refl 0) hd.1
  have hw:IntKind.i64.wrap (d-sets.foldl (dt h d) 0)=d-sets.foldl (dt h d) 0:=wrap64 (by omega) (by omega)
  simp -implicitDefEqProofs (maxSteps:=9^9) (disch:=omega) only[go_sem,simprocAttr,hw]
  rfl
theorem ClV.ap0{P:Program}{S:MC P}{g:FuncId}{p q:List AV}{σ:List aa}{x:AV}{v:AV}(h:ClV S g p q σ [x] v){Q:AV→List aa→Prop}(hq:Q v σ):ao S g (p++x::q) σ Q:=by
 have:=h σ (Nat.le_refl _) (fun _ _=>rfl) Q hq
 simpa using this
theorem KE{g:FuncId}{p q:List AV}{σ:List aa}(f:Int→Bool)(l:List Int)(tk:Tok)(hl:l.length≤4294967296)(hn:∀d∈l,ClV S g p q σ [.int .i64 d] (.bool (f d)))(Q:AV→List aa→Prop)(h:∀n:Int,decide (0≤n)=l.any f→Q (.int .i64 n) σ) :
  ao S 201 [.list tk 1 (l.map (.int .i64)),.fn (.func g) p q] σ Q:=by
 refine AcE (Tryz.ah (S:=S) 19 (fun _=>([],[])) fs0 aD) Tryz.M6 Tryz.func201 rfl ?_
 simp -implicitDefEqProofs (maxSteps:=9^9) (disch:=omega) only[go_sem,simprocAttr]
 refine aj.bE (Tryz.ah (S:=S) 19 (fun _=>([],[])) fs0 aD) l.length (fun i=>(l.take i).any f=false) (fun i=>[(8,.int .i64 i)]) (fun _ _=>σ) [] (by kernel_rfl) rfl (by simp[upd,ins,aw,ae]) (by simp) ?_ ?_
 ·intro i j hi hp ih
  have hmi:l[i]∈l:=List.getElem_mem hi
  simp -implicitDefEqProofs (maxSteps:=9^9) (disch:=omega) only[go_sem,simprocAttr]
  refine(hn _ hmi).ap0 ?_
  cases hb:f l[i]
  ·simp -implicitDefEqProofs (maxSteps:=9^9) (disch:=omega) only[go_sem,simprocAttr]
   refine(ih ?_ []).ay rfl (by simp[upd,ins,aw,ae])
   rw[List.take_succ_eq_append_getElem hi,List.any_append,hp];simp[hb]
  ·simp -implicitDefEqProofs (maxSteps:=9^9) (disch:=omega) only[go_sem,simprocAttr]
   refine h _ ?_
   have:l.any f=true:=List.any_eq_true.2 ⟨_,hmi,hb⟩
   rw[this];simp
 ·intro j hp
  rw[List.take_length] at hp
  simp -implicitDefEqProofs (maxSteps:=9^9) (disch:=omega) only[go_sem,simprocAttr]
  refine h _ ?_
  rw[hp];simp
theorem qK{g:FuncId}{p q:List AV}{σ:List aa}(f:Int→Bool)(l:List Int)(tk:Tok)(hl:l.length≤4294967296)(hn:∀d∈l,ClV S g p q σ [.int .i64 d] (.bool (f d)))(Q:AV→List aa→Prop)(h:Q (.bool (l.any f)) σ) :
  ao S 155 [.list tk 1 (l.map (.int .i64)),.fn (.func g) p q] σ Q:=by
 refine AcE (Tryz.ah (S:=S) 9 (fun _=>([],[])) fs0 aD) Tryz.Nn Tryz.func155 rfl ?_
 simp -implicitDefEqProofs (maxSteps:=9^9) (disch:=omega) only[go_sem,simprocAttr]
 refine KE f l tk hl hn _ fun n hn=>?_
 rw[← hn] at h
 by_cases h0:0≤n
 ·have e:decide (0≤n)=true:=by simpa using h0
  rw[e] at h
  simp -implicitDefEqProofs (maxSteps:=9^9) (disch:=omega) only[go_sem,simprocAttr]
  exact h
 ·have e:decide (0≤n)=false:=by simpa using h0
  rw[e] at h
  simp -implicitDefEqProofs (maxSteps:=9^9) (disch:=omega) only[go_sem,simprocAttr]
  exact h
def Ros.az(r:Ros)(l:List (List Int)):List AV:=[.int .i64 r.hands,.int .i64 r.skill,.int .i64 r.mn,.int .i64 r.mx,.list .no 2 (r.sets.map Sg.av),.list .no 6 (r.ents.map Tn.av),.list .no 1 (l.map ar)]
theorem MS{σ:List aa}{re rr:Nat}{r:Ros}{ds:List (List Int)}{e d:Int}(hs:0≤r.skill∧r.skill≤9)(he: -300≤e∧e≤300)(hd: -2000000≤d∧d≤2000000)(h1:ai σ re=some (.cells [.int .i64 e]))(h2:ai σ rr=some (.cells (r.az ds))) :
  ClV S 156 [] [.ptr re 0,.ptr rr 0] σ [.int .i64 d] (.bool (decide (-r.skill≤d-e∧d-e≤r.skill))):=by
 intro σ' hl' hs' Q hq
 have h1':=(hs' _ (aN h1)).trans h1
 have h2':=(hs' _ (aN h2)).trans h2
 simp only[List.nil_append,List.cons_append]
 refine ao.jS (E:=Tryz.E (S:=S) 16 (fun _=>([],[])) cq) (Tryz.ah (S:=S) 16 (fun _=>([],[])) cq bm) (.bool _) (hq) Tryz.NN Tryz.func156 rfl (by kernel_rfl) (by simp[Tryz.E]) (aW.of Tryz.func156 (by kernel_rfl) (by kernel_rfl)) (by kernel_rfl) ?_
 have hw:IntKind.i64.wrap (d-e)=d-e:=wrap64 (by omega) (by omega)
 have hw2:IntKind.i64.wrap (-r.skill)= -r.skill:=wrap64 (by omega) (by omega)
 simp -implicitDefEqProofs (maxSteps:=9^9) (disch:=omega) only[go_sem,simprocAttr,h1',h2',Ros.az,hw,hw2]
 exact⟨fun a b=>(decide_eq_true (by omega)).symm,fun h=>(decide_eq_false (by omega)).symm⟩
theorem Sa(r:Ros)(hr:r.Head)(ds:List (List Int))(hds:∀l∈ds,(∀y∈l, -2000000≤y∧y≤2000000)∧l.length≤1000000)(hdl:ds.length=r.ents.length)(hde:∀t∈r.ents,0≤t.day∧t.day≤60)(x:List Int)(hx:OkX r x)(i:Nat)(hi:i<r.ents.length)(h:Int)(hh:0≤h∧h<4) :
  al S 111 [r.wav ds,rtv x,.int .i64 i,.int .i64 h] (.bool (byB r ds x i h)):=by
 refine PvE (Tryz.ah (S:=S) 42 Tryz.Hn cq bm) (.bool) Tryz.Nc Tryz.func111 rfl ?_
 intro σ
 have hid:i<ds.length:=by omega
 have hgd:r.ents.getD i default=r.ents[i]:=by simp[List.getD,List.getElem?_eq_getElem hi]
 have hgs:ds.getD i []=ds[i]:=by simp[List.getD,List.getElem?_eq_getElem hid]
 have hday:=hde _ (List.getElem_mem hi)
 have hdi:=hds _ (List.getElem_mem hid)
 have hoff:=@qu r x hx h r.ents[i].day hday
 have hel:=hr.entl
 have hxl:=hx.len
 have hby:byB r ds x i h=if 0≤r.ents[i].hand∧r.ents[i].hand≠h then false else ds[i].any fun d=>decide (-r.skill≤d-cS r x h r.ents[i].day∧d-cS r x h r.ents[i].day≤r.skill):=by
  unfold byB;rw[hgd,hgs]
 rw[hby]
 clear hgd hgs hby hds hde
 have hav:r.wav ds= .agg (r.az ds):=rfl
 simp only[hav,rtv]
 simp -implicitDefEqProofs (maxSteps:=9^9) (disch:=omega) only[go_sem,simprocAttr,Ros.az,Tn.av,Tn.cells]
 have hw:IntKind.i64.wrap (tg x h*(r.ents[i].day-cn r.sets h r.ents[i].day))=cS r x h r.ents[i].day:=wrap64 (by unfold cS at hoff;omega) (by unfold cS at hoff;omega)
 refine⟨fun q1=>⟨fun q2=>?_,fun q2=>?_⟩,fun q1=>?_⟩
 ·rw[if_pos ⟨q1,q2⟩]
 ·rw[if_neg (fun c=>c.2 q2)]
  refine vE r ds hr h _ hday _ _ ?_
  simp -implicitDefEqProofs (maxSteps:=9^9) (disch:=omega) only[go_sem,simprocAttr,Ros.az,Tn.av,Tn.cells,hw,ar]
  refine qK (fun d=>decide (-r.skill≤d-cS r x h r.ents[i].day∧d-cS r x h r.ents[i].day≤r.skill)) ds[i] .no (by omega) (fun d hd=>MS (r:=r) (ds:=ds) hr.skill hoff (hdi.1 d hd) aZ (by simp[a8,Ros.az])) _ ?_
  simp -implicitDefEqProofs (maxSteps:=9^9) (disch:=omega) only[go_sem,simprocAttr,Ros.az,Tn.av,Tn.cells,hw,ar]
 ·rw[if_neg (fun c=>q1 c.1)]
  refine vE r ds hr h _ hday _ _ ?_
  simp -implicitDefEqProofs (maxSteps:=9^9) (disch:=omega) only[go_sem,simprocAttr,Ros.az,Tn.av,Tn.cells,hw,ar]
  refine qK (fun d=>decide (-r.skill≤d-cS r x h r.ents[i].day∧d-cS r x h r.ents[i].day≤r.skill)) ds[i] .no (by omega) (fun d hd=>MS (r:=r) (ds:=ds) hr.skill hoff (hdi.1 d hd) aZ (by simp[a8,Ros.az])) _ ?_
  simp -implicitDefEqProofs (maxSteps:=9^9) (disch:=omega) only[go_sem,simprocAttr,Ros.az,Tn.av,Tn.cells,hw,ar]
structure Cu(r:Ros)(ds:List (List Int)):Prop extends r.Head where
 dev:∀l∈ds,(∀y∈l, -2000000≤y∧y≤2000000)∧l.length≤1000000
 len:ds.length=r.ents.length
 day:∀t∈r.ents,0≤t.day∧t.day≤60
theorem Ros.Good.work{r:Ros}(h:r.Good):Cu r (aq r):=⟨h.toHead,h.VE,we r,fun t ht=>(h.ent t ht).1⟩
theorem FE{f:Nat→Bool}{i:Nat}:(List.range (i+1)).all f=((List.range i).all f&&f i):=by rw[List.range_succ,List.all_append];simp
theorem Hr{f:Nat→Bool}{i:Nat}:(List.range (i+1)).any f=((List.range i).any f||f i):=by rw[List.range_succ,List.any_append];simp
theorem VB(r:Ros)(ds:List (List Int))(hr:Cu r ds)(x:List Int)(hx:OkX r x):al S 151 [r.wav ds,rtv x] (.bool (isB r ds x)):=by
 refine PvE (Tryz.ah (S:=S) 27 (fun _=>([],[])) cq bm) (.bool) Tryz.Nj Tryz.func151 rfl ?_
 intro σ
 have hav:r.wav ds= .agg (r.az ds):=rfl
 have hh:=hr.hands
 have hel:=hr.entl
 have hH:(r.hands.toNat:Int)=r.hands:=by omega
 have hx4:(4≤x.length)=True:=by rw[hx.len];simp
 have htk:List.take 4 (x.map (AV.int .i64))=x.map (AV.int .i64):=List.take_of_length_le (by rw[List.length_map,hx.len];omega)
 simp only[hav,rtv]
 simp -implicitDefEqProofs (maxSteps:=9^9) (disch:=omega) only[go_sem,simprocAttr,Ros.az,hx4,htk]
 refine aj.bE (Tryz.ah (S:=S) 27 (fun _=>([],[])) cq bm) r.ents.length (fun i=>((List.range i).all fun i=>(List.range r.hands.toNat).any fun h=>byB r ds x i h)=true) (fun i=>[(11,.int .i64 i)]) (fun _ j=>σ++(.cells (r.az ds):: .cells (x.map (.int .i64))::j)) [] (by kernel_rfl) (by simp[Ros.az]) (by simp[upd,ins,aw,ae]) (by simp) ?_ ?_
 ·intro i j hi hp ih
  rw[FE,hp,Bool.true_and] at ih
  simp -implicitDefEqProofs (maxSteps:=9^9) (disch:=omega) only[go_sem,simprocAttr,Ros.az,hx4,htk]
  refine aj.bE (Tryz.ah (S:=S) 27 (fun _=>([],[])) cq bm) r.hands.toNat (fun h=>((List.range h).any fun h=>byB r ds x i h)=false) (fun h=>[(17,.int .i64 h)]) (fun _ _=>σ++(.cells (r.az ds):: .cells (x.map (.int .i64))::j)) [] (by kernel_rfl) (by simp[Ros.az]) (by simp[upd,ins,aw,ae,hH]) (by simp) ?_ ?_
  ·intro h j2 hh2 hp2 ih2
   have hh4:(h:Int)<4:=by omega
   simp -implicitDefEqProofs (maxSteps:=9^9) (disch:=omega) only[go_sem,simprocAttr,Ros.az,hx4,htk]
   refine Sa r hr.toHead ds hr.dev hr.len hr.day x hx i hi h ⟨by omega,hh4⟩ _ _ ?_
   cases hb:byB r ds x i h
   ·simp -implicitDefEqProofs (maxSteps:=9^9) (disch:=omega) only[go_sem,simprocAttr,Ros.az,hx4,htk]
    refine(ih2 (by rw[Hr,hp2,hb];rfl) []).ay rfl (by simp[upd,ins,aw,ae])
   ·simp -implicitDefEqProofs (maxSteps:=9^9) (disch:=omega) only[go_sem,simprocAttr,Ros.az,hx4,htk]
    have:((List.range r.hands.toNat).any fun h=>byB r ds x i h)=true:=List.any_eq_true.2 ⟨h,List.mem_range.2 hh2,hb⟩
    refine(ih this j).ay rfl (by simp[upd,ins,aw,ae])
  ·intro j2 hp2
   simp -implicitDefEqProofs (maxSteps:=9^9) (disch:=omega) only[go_sem,simprocAttr,Ros.az,hx4,htk]
   have:isB r ds x=false:=by
    unfold isB
    rw[List.all_eq_false]
    exact⟨i,List.mem_range.2 hi,by rw[hp2];simp⟩
   rw[this]
 ·intro j hp
  simp -implicitDefEqProofs (maxSteps:=9^9) (disch:=omega) only[go_sem,simprocAttr,Ros.az,hx4,htk]
  have:isB r ds x=true:=hp
  rw[this]
structure RaO(r:Ros)(ds:List (List Int))(s:Nat)(M:Nat→Prop)(q rr ry rs rn:Nat)(τ:List aa):Prop where
 r1:ai τ rr=some (.cells (r.az ds))
 y1:ai τ ry=some (.cells [.yield q])
 s1:ai τ rs=some (.cells [.int .u64 s])
 n1:ai τ rn=some (.cells [.fn (.func 200) [] [.ptr rr 0,.ptr ry 0,.ptr rs 0,.ptr rn 0]])
 m:¬M rr∧¬M ry∧¬M rs∧¬M rn
theorem RaO.same{r:Ros}{ds:List (List Int)}{s:Nat}{M:Nat→Prop}{q rr ry rs rn:Nat}{τ τ':List aa}(h:RaO r ds s M q rr ry rs rn τ)(hs:bZ M τ τ'):RaO r ds s M q rr ry rs rn τ':=
 ⟨hs.get h.r1 h.m.1,hs.get h.y1 h.m.2.1,hs.get h.s1 h.m.2.2.1,hs.get h.n1 h.m.2.2.2,h.m⟩
theorem PO(r:Ros)(ds:List (List Int))(hr:r.Head)(s:Nat)(hs:s<16):∀(m:Nat) (x:List Int) (a:Nat),x.length=4→(a:Int)+m=r.hands→∀{q rr ry rs rn:Nat} {L:List AV} (T:kR S q L) {τ:List aa} (D Rest:List AV),RaO r ds s T.M q rr ry rs rn τ→T.C D τ→L=D++(dW r s m x a).map rtv++Rest→
  ao S 200 [rtv x,.int .i64 a,.ptr rr 0,.ptr ry 0,.ptr rs 0,.ptr rn 0] τ (Mq T τ (D++(dW r s m x a).map rtv)):=by
 intro m
 have hmn:=hr.mn
 have hhd:=hr.hands
 induction m with
 | zero=>
  intro x a hx ha q rr ry rs rn L T τ D Rest hT hC hL
  refine AcE (Tryz.ah (S:=S) 52 (fun _=>([],[])) cq bm) Tryz.DN Tryz.func200 rfl ?_
  have q1:∀l,ai (τ++l) rr=some (.cells (r.az ds)):=fun l=>by rw[aB (aN hT.r1)];exact hT.r1
  have q3:∀l,ai (τ++l) ry=some (.cells [.yield q]):=fun l=>by rw[aB (aN hT.y1)];exact hT.y1
  simp only[dW] at hL⊢
  have hx4:(4≤x.length)=True:=by rw[hx];simp
  have htk:List.take 4 (x.map (AV.int .i64))=x.map (AV.int .i64):=List.take_of_length_le (by rw[List.length_map,hx];omega)
  have ha':(a:Int)=r.hands:=by omega
  simp only[rtv]
  simp -implicitDefEqProofs (maxSteps:=9^9) (disch:=omega) only[go_sem,simprocAttr,q1,q3,Ros.az,ha',hx4,htk]
  refine(T.take (D:=D) (R:=Rest) (by rw[hL];simp[rtv]) (T.keep hC (gh.app fun q hq=>T.lt hC hq))).mono fun v τ' hv=>?_
  rcases hv with⟨h1,⟨rfl,h2⟩ | ⟨rfl,h2⟩⟩
  ·simp -implicitDefEqProofs (maxSteps:=9^9) (disch:=omega) only[go_sem,simprocAttr]
   exact⟨bZ.app.trans h1,.inl ⟨rfl,h2⟩⟩
  ·simp -implicitDefEqProofs (maxSteps:=9^9) (disch:=omega) only[go_sem,simprocAttr]
   exact⟨bZ.app.trans h1,.inr ⟨rfl,D,rtv x,Rest,by rw[hL];simp,h2⟩⟩
 | succ m ih=>
  intro x a hx ha q rr ry rs rn L T τ D Rest hT hC hL
  have hane:((a:Int)=r.hands)=False:=by simp;omega
  have ha4:(a:Int)<4:=by omega
  refine AcE (Tryz.ah (S:=S) 52 (fun _=>([],[])) cq bm) Tryz.DN Tryz.func200 rfl ?_
  have q1:∀l,ai (τ++l) rr=some (.cells (r.az ds)):=fun l=>by rw[aB (aN hT.r1)];exact hT.r1
  have q2:∀l,ai (τ++l) rs=some (.cells [.int .u64 s]):=fun l=>by rw[aB (aN hT.s1)];exact hT.s1
  have q4:∀l,ai (τ++l) rn=some (.cells [.fn (.func 200) [] [.ptr rr 0,.ptr ry 0,.ptr rs 0,.ptr rn 0]]):=fun l=>by rw[aB (aN hT.n1)];exact hT.n1
  have hwa:IntKind.i64.wrap ((a:Int)+1)=((a+1:Nat):Int):=by rw[wrap64 (by omega) (by omega)];rfl
  have hx4:∀z:List Int,z.length=4→(4≤z.length)=True:=fun z hz=>by rw[hz];simp
  have htk:∀z:List Int,z.length=4→List.take 4 (z.map (AV.int .i64))=z.map (AV.int .i64):=fun z hz=>List.take_of_length_le (by rw[List.length_map,hz];omega)
  have hx4x:=hx4 x hx
  have htkx:=htk x hx
  simp only[rtv]
  cases hb:s.testBit a with
  | false=>
   have hall:dW r s (m+1) x a=dW r s m x (a+1):=by simp[dW,hb]
   rw[hall] at hL⊢
   simp -implicitDefEqProofs (maxSteps:=9^9) (disch:=omega) only[go_sem,simprocAttr,q1,q2,q4,Ros.az,hane,hb,hwa,hx4x,htkx]
   refine(ih x (a+1) hx (by omega) T D Rest (hT.same bZ.app) (T.keep hC (gh.app fun q hq=>T.lt hC hq)) hL).mono fun v τ' hv=>?_
   rcases hv with⟨h1,⟨rfl,h2⟩ | ⟨rfl,h2⟩⟩
   ·simp -implicitDefEqProofs (maxSteps:=9^9) (disch:=omega) only[go_sem,simprocAttr]
    exact⟨bZ.app.trans h1,.inl ⟨rfl,h2⟩⟩
   ·simp -implicitDefEqProofs (maxSteps:=9^9) (disch:=omega) only[go_sem,simprocAttr]
    exact⟨bZ.app.trans h1,.inr ⟨rfl,h2⟩⟩
  | true=>
   have hall:dW r s (m+1) x a=(List.range (r.mx-r.mn+1).toNat).flatMap fun(k:Nat)=>if r.mn+k=0 then[] else dW r s m (bG x a (r.mn+k)) (a+1):=by simp[dW,hb]
   rw[hall] at hL⊢
   simp -implicitDefEqProofs (maxSteps:=9^9) (disch:=omega) only[go_sem,simprocAttr,q1,q2,q4,Ros.az,hane,hb,hx4x,htkx]
   refine aj.kL (Tryz.ah (S:=S) 52 (fun _=>([],[])) cq bm) (r.mx-r.mn+1).toNat (fun i σ'=>∃xi:List Int,xi.length=4∧(∀z,bG xi a z=bG x a z)∧ai σ' τ.length=some (.cells (xi.map (AV.int .i64)))∧bZ (fun q=>T.M q∨q=τ.length) (τ++[.cells (x.map (AV.int .i64))]) σ'∧T.C (D++((List.range i).flatMap fun(k:Nat)=>if r.mn+k=0 then[] else dW r s m (bG x a (r.mn+k)) (a+1)).map rtv) σ') (fun i=>[(9,.int .i64 (r.mn+i))]) (by kernel_rfl) (by simp[upd,ins,aw,ae]) ?_ ?_ ?_
   ·exact⟨x,hx,fun _=>rfl,a8,bZ.refl,by simpa using T.keep hC (gh.app fun q hq=>T.lt hC hq)⟩
   ·rintro i σ' hi ⟨xi,h1,h3,h4,h5,h6⟩ ih'
    have hs1:bZ (fun q=>T.M q∨q=τ.length) τ σ':=bZ.app.trans h5
    have ho:∀{q o},ai τ q=some o→¬T.M q→ai σ' q=some o:=fun h hm=>hs1.get h (fun h'=>by rcases h' with h' | h';exact hm h';have:=aN h;omega)
    have p1:=ho hT.r1 hT.m.1
    have p5:∀o,ai (ax σ' τ.length o) τ.length=some o:=fun o=>cN h4 o
    have p6:∀o,ai (ax σ' τ.length o) rn=some (.cells [.fn (.func 200) [] [.ptr rr 0,.ptr ry 0,.ptr rs 0,.ptr rn 0]]):=fun o=>by rw[bt (by have:=aN hT.n1;omega)];exact ho hT.n1 hT.m.2.2.2
    have hset3:=@oU xi (a:Int) (r.mn+i) (by omega) (by omega)
    rw[h3,Int.toNat_natCast] at hset3
    have hl3:(bG x a (r.mn+i)).length=4:=by rw[oz];exact hx
    have hx4s:=hx4 _ hl3
    have htks:=htk _ hl3
    obtain⟨X,hX⟩:=oY (fun(k:Nat)=>if r.mn+k=0 then[] else dW r s m (bG x a (r.mn+k)) (a+1)) hi
    rw[gE] at ih'
    generalize (List.range i).flatMap (fun(k:Nat)=>if r.mn+k=0 then[] else dW r s m (bG x a (r.mn+k)) (a+1))=D0 at h6 hX ih'
    have hle:r.mn+i≤r.mx:=by omega
    have hlen':τ.length<σ'.length:=aN h4
    have hMt:¬T.M τ.length:=fun h=>by have:=T.lt hC h;omega
    have hs2:bZ (fun q=>T.M q∨q=τ.length) τ (ax σ' τ.length (.cells ((bG x a (r.mn+i)).map (AV.int .i64)))):=hs1.trans ⟨by rw[aJ];omega,fun q hq hm=>by rw[bt (by omega)]⟩
    have ho2:∀{q o},ai τ q=some o→¬T.M q→ai (ax σ' τ.length (.cells ((bG x a (r.mn+i)).map (AV.int .i64)))) q=some o:=fun h hm=>hs2.get h (fun h'=>by rcases h' with h' | h';exact hm h';have:=aN h;omega)
    have hk6:T.C (D++D0.map rtv) (ax σ' τ.length (.cells ((bG x a (r.mn+i)).map (AV.int .i64)))):=T.keep h6 ⟨by rw[aJ];omega,fun q hq=>bt (fun e=>hMt (e▸hq))⟩
    have hsame:bZ (fun q=>T.M q∨q=τ.length) (τ++[.cells (x.map (AV.int .i64))]) (ax σ' τ.length (.cells ((bG x a (r.mn+i)).map (AV.int .i64)))):=h5.trans ⟨by rw[aJ];omega,fun q hq hm=>by rw[bt (by omega)]⟩
    by_cases hz:r.mn+i=0
    ·have hz':(r.mn+i=0)=True:=eq_true hz
     simp only[if_pos hz,List.append_nil] at ih'
     clear hX hL hs2 ho2
     simp -implicitDefEqProofs (maxSteps:=9^9) (disch:=omega) only[go_sem,simprocAttr,p1,Ros.az,h4,p5,p6,h1,h3,hz',hx4s,htks,hset3]
     refine(ih' _ ⟨bG x a (r.mn+i),hl3,fun z=>o7,cN h4 _,hsame,hk6⟩).ay rfl (by simp[upd,ins,aw,ae,Int.add_assoc])
    ·have hz':(r.mn+i=0)=False:=eq_false hz
     simp only[if_neg hz] at ih' hX
     simp -implicitDefEqProofs (maxSteps:=9^9) (disch:=omega) only[go_sem,simprocAttr,p1,Ros.az,h4,p5,p6,h1,h3,hz',hwa,hx4s,htks,hset3]
     refine(ih (bG x a (r.mn+i)) (a+1) hl3 (by omega) T (D++D0.map rtv) (X.map rtv++Rest) ⟨ho2 hT.r1 hT.m.1,ho2 hT.y1 hT.m.2.1,ho2 hT.s1 hT.m.2.2.1,ho2 hT.n1 hT.m.2.2.2,hT.m⟩ hk6 (by rw[hL,hX];simp)).mono fun v τ' hv=>?_
     have hsf:bZ (fun q=>T.M q∨q=τ.length) (ax σ' τ.length (.cells ((bG x a (r.mn+i)).map (AV.int .i64)))) τ':=⟨hv.1.1,fun q hq hm=>hv.1.2 q hq (fun h=>hm (.inl h))⟩
     rcases hv with⟨g1,⟨rfl,g2⟩ | ⟨rfl,g2⟩⟩
     ·simp -implicitDefEqProofs (maxSteps:=9^9) (disch:=omega) only[go_sem,simprocAttr]
      refine(ih' τ' ⟨bG x a (r.mn+i),hl3,fun z=>o7,?_,hsame.trans hsf,by simpa using g2⟩).ay rfl (by simp[upd,ins,aw,ae,Int.add_assoc])
      rw[g1.2 _ (by rw[aJ];exact hlen') hMt];exact cN h4 _
     ·simp -implicitDefEqProofs (maxSteps:=9^9) (disch:=omega) only[go_sem,simprocAttr]
      refine⟨⟨by have:=g1.1;rw[aJ] at this;have:=hs1.1;omega,fun q hq hm=>?_⟩,.inr ⟨rfl,g2⟩⟩
      rw[g1.2 q (by rw[aJ];have:=hs1.1;omega) hm,hs2.2 q hq (fun h=>by rcases h with h | h;exact hm h;omega)]
   ·rintro σ' ⟨xi,h1,h3,h4,h5,h6⟩
    have hs1:bZ (fun q=>T.M q∨q=τ.length) τ σ':=bZ.app.trans h5
    have ho:∀{q o},ai τ q=some o→¬T.M q→ai σ' q=some o:=fun h hm=>hs1.get h (fun h'=>by rcases h' with h' | h';exact hm h';have:=aN h;omega)
    have p1:=ho hT.r1 hT.m.1
    simp -implicitDefEqProofs (maxSteps:=9^9) (disch:=omega) only[go_sem,simprocAttr,p1,Ros.az]
    exact⟨⟨hs1.1,fun q hq hm=>hs1.2 q hq (fun h=>by rcases h with h | h;exact hm h;omega)⟩,.inl ⟨rfl,h6⟩⟩
end Go.Proofs
