/- Part E of the abstract layer: pop is sound, operation by operation. -/
import Derived.Test.YtgbdndlmdklefaaGreatHK01
import Derived.Laws.CopyRow
import Derived.Laws.World
import Derived.Laws.BytesArg
set_option linter.unusedSimpArgs false
set_option linter.unusedVariables false
set_option maxHeartbeats 40000000
namespace Go.Mu
open Go
variable {P:Program}{K:Kr}{n N:Nat}{ty:Nat→TI}
theorem VR.oc{cs:List AV}{off d:Nat}{c:Value}(h:VR K n (.eptr cs off) c):∃b o,c= .pointer (some ⟨b,o+off,none⟩)∧∀d,VR K n (.eptr cs (off+d)) (.pointer (some ⟨b,o+(off+d),none⟩)):=by
 cases h with
 | eptr _ _ b o f hS h1 h=>exact⟨b,o,rfl,fun d=> .eptr cs (off+d) b o f hS h1 h⟩
theorem VR.nN{r m sz i off:Nat}{c:Value}(h:VR K n (.vptr r m sz i off) c):∃b o,c= .pointer (some ⟨b,o+(i*sz+off),none⟩)∧∀sz i off,VR K n (.vptr r m sz i off) (.pointer (some ⟨b,o+(i*sz+off),none⟩)):=by
 cases h with
 | vptr _ _ _ _ _ b o cap h ht=>exact⟨b,o,rfl,fun sz i off=> .vptr r m sz i off b o cap h ht⟩
theorem cZ(b o d:Nat):(⟨b,o,none⟩: Addr).add d=⟨b,o+d,none⟩:=by
 unfold Addr.add;split<;> simp_all
theorem jL(hT:b9 P ty){f:Field}(hk:(ty f.type).kd≠ .other)(hz:(ty f.type).sz≠0)(a:Addr)(w:World):(fieldPlace a f).run P w= .ok (a.add f.offset) w:=by
 simp[fieldPlace,aY hT hk w,hz]
theorem Ib{t:Tok}{sz:Nat}{xs:List AV}{c:Value}{k:Nat}{x:AV}(h:VR K n (.list t sz xs) c)(hx:xs[k]? = some x) :
  ∃b o cap,c= .slice (some ⟨b,o,none⟩) xs.length cap∧VR K n (.eptr x.cells 0) (.pointer (some ⟨b,o+k*sz,none⟩)):=by
 cases h with
 | list _ _ _ a cap f hl ht ha hs h1 h=>
  obtain⟨hlt,rfl⟩:=List.getElem?_eq_some_iff.1 hx
  obtain⟨b,o,rfl,hS⟩:=ha (by intro e;subst e;simp at hlt)
  have hsz:=hs k hlt
  exact⟨b,o,cap,rfl,.eptr _ 0 b (o+k*sz) (f k) (fun j hj=>by rw[Nat.add_assoc];exact hS k j hlt (by omega)) (fun j hj=>h1 k j hlt (by omega)) (fun j hj=>h k j hlt hj)⟩
theorem VR.H8{t:Tok}{sz:Nat}{xs:List AV}{a:Option Addr}{len cap lo hi:Nat}(h:VR K n (.list t sz xs) (.slice a len cap))(h1:lo≤hi)(h2:hi≤xs.length) :
  VR K n (.list .no sz ((xs.take hi).drop lo)) (.slice (if cap=lo then a else a.map (·.add (lo*sz))) (hi-lo) (cap-lo)):=by
 cases h with
 | list _ _ _ _ _ f hl ht ha hs g1 h=>
  have hlen:((xs.take hi).drop lo).length=hi-lo:=by simp;omega
  rw[← hlen]
  refine .list .no sz _ _ _ (fun i j=>f (lo+i) j) (by omega) trivial (fun hx=>?_) (fun i hi'=>?_) (fun i j hi' hj=>?_) (fun i j hi' hj=>?_)
  ·have hne:(xs.take hi).drop lo≠[]:=hx
   have hlt:lo<hi:=by
    rcases Nat.lt_or_ge lo hi with e | e
    ·exact e
    ·exact absurd (List.drop_eq_nil_iff.2 (by simp;omega)) hne
   obtain⟨b,o,rfl,hS⟩:=ha (by intro e;subst e;simp at h2;omega)
   refine⟨b,o+lo*sz,?_,fun i j hi' hj=>?_⟩
   ·rw[if_neg (by omega)];simp[cZ]
   ·have:=hS (lo+i) j (by omega) hj
    rw[← this];congr 1;rw[Nat.add_mul];omega
  ·have:lo+i<xs.length:=by omega
   have:=hs (lo+i) this
   simpa using this
  ·exact g1 _ _ (by omega) hj
  ·have e:((xs.take hi).drop lo)[i]=xs[lo+i]'(by omega):=by simp
   have:=h (lo+i) j (by omega) (by rw[← e];exact hj)
   simpa[e] using this
theorem aT{t:Nat}(h:(ty t).kd.agg.isSome=true):(ty t).kd≠ .other:=by
 intro e;rw[e] at h;simp[TK.agg] at h
theorem kT{t:Nat}(h:¬(ty t).kd.agg=none):(ty t).kd≠ .other:=by
 intro e;rw[e] at h;simp[TK.agg] at h
theorem VR.ik{cs:List AV}{c:Value}(h:VR K n (.agg cs) c):∃cc:Array Value,c= .agg cc∧VRs K n cs cc.toList∧∀x∈cc.toList,x.oneCell'=true:=by
 cases h with
 | agg _ cs' hl h1 h=>exact⟨cs'.toArray,rfl,⟨by simpa using hl,by simpa using h⟩,by simpa using h1⟩
theorem VR.BK{cs:List AV}{c:Value}(h:VR K n (.tup cs) c):∃cc:Array Value,c= .tuple cc∧VRs K n cs cc.toList:=by
 cases h with
 | tup _ cs' hl h=>exact⟨cs'.toArray,rfl,⟨by simpa using hl,by simpa using h⟩⟩
theorem VR.bY{k:IntKind}{i:Int}{c:Value}(h:VR K n (.int k i) c):c= .int k i:=by cases h;rfl
theorem VR.dX{b:Bool}{c:Value}(h:VR K n (.bool b) c):c= .bool b:=by cases h;rfl
theorem VR.eR{s:ByteArray}{c:Value}(h:VR K n (.str s) c):c= .string s:=by cases h;rfl
theorem VR.gl{r off:Nat}{c:Value}(h:VR K n (.ptr r off) c):r<n∧c= .pointer (some ⟨K.φ r,off,none⟩):=by cases h;exact⟨by assumption,rfl⟩
theorem wi(hT:b9 P ty):∀(fs:List Field),(∀f∈fs,(ty f.type).kd≠ .other)→∀w,
  (fs.mapM (m:=Sem) fun f=>do pure (f.offset,← sizeOf f.type)).run P w= .ok (fs.map fun f=>(f.offset,(ty f.type).sz)) w
 | [],_,w=>rfl
 | f::fs,h,w=>by
  simp only[List.mapM_cons,Sem.run_bind,aY hT (h f (by simp)),Result.andThen_ok,Sem.run_pure,wi hT fs (fun g hg=>h g (by simp[hg])) w,List.map_cons]
theorem Bq(hT:b9 P ty){fr:Fr}{a:Act}{v:AV}(hF:FR K n N fr a.tmps){type:TypeId}{t:TypeId}{parts:Array (Nat×Operand)}(h:pop ty fr type (.build t parts)=some v)(w:World) :
  ∃c,(Instr.build t (parts.map fun(i,x)=>(i,a.eval x))).run P w= .ok c w∧VR K n v c:=by
 have hps:∀{ps},apart fr parts.toList=some ps→ps.map (·.1)=((parts.map fun(i,x)=>(i,a.eval x)).toList).map (·.1)∧VRs K n (ps.map (·.2)) (((parts.map fun(i,x)=>(i,a.eval x)).toList).map (·.2)):=fun{ps} h=>by
  obtain⟨b1,b2⟩:=mJ hF h
  refine⟨by rw[b1];simp[Function.comp_def],?_⟩
  simpa[Function.comp_def] using b2
 simp only[pop] at h
 split at h
 ·rename_i ps fs h1 h2
  split at h
  ·rename_i hall
   simp only[Option.map_eq_some_iff] at h
   obtain⟨cs',h3,rfl⟩:=h
   have hk:(ty t).kd≠ .other:=by rw[h2];simp
   obtain⟨d,hd,hu⟩:=aL hT hk
   obtain⟨z,hz,hzr⟩:=fl (K:=K) (n:=n) hT hk
   rw[h2] at hd
   obtain⟨fields,rfl,rfl⟩:=hd
   have hallf:∀f∈fields.toList,(ty f.type).kd≠ .other:=fun f hf=>aT (by
    have:=List.all_eq_true.1 hall (f.offset,f.type) (List.mem_map.2 ⟨f,hf,rfl⟩)
    simpa using this)
   obtain⟨b1,b2⟩:=hps h1
   have hzf:=gN hT hk
   obtain⟨g1,g2⟩:=hz.cells hzf
   obtain⟨cc',k1,k2,k3⟩:=n0 _ h3 b1 b2 g1 g2
   refine⟨.agg cc',?_,k2.agg k3⟩
   have hm:(fields.mapM (m:=Sem) fun f=>do pure (f.offset,← sizeOf f.type)).run P w= .ok (fields.toList.map fun f=>(f.offset,(ty f.type).sz)).toArray w:=by
    rw[Array.mapM_eq_mapM_toList,Sem.run_map,wi hT fields.toList hallf w]
    rfl
   simp only[Instr.build,Sem.run_bind,hzr w,hu w,hm,Result.andThen_ok]
   have hpl:(fun(i:Nat)=>((fields.toList.map fun f=>(f.offset,(ty f.type).sz)).toArray)[i]?)=fun(i:Nat)=>((fields.toList.map fun f=>(f.offset,f.type))[i]?).map fun(p:Nat×Nat)=>(p.1,(ty p.2).sz):=by
    funext i;simp[Function.comp_def]
   rw[hpl,k1]
   rfl
  ·simp at h
 ·rename_i ps m e h1 h2
  split at h
  ·rename_i hall
   simp only[Option.map_eq_some_iff] at h
   obtain⟨cs',h3,rfl⟩:=h
   have hk:(ty t).kd≠ .other:=by rw[h2];simp
   obtain⟨d,hd,hu⟩:=aL hT hk
   obtain⟨z,hz,hzr⟩:=fl (K:=K) (n:=n) hT hk
   rw[h2] at hd
   simp only[bV] at hd
   subst hd
   obtain⟨b1,b2⟩:=hps h1
   obtain⟨g1,g2⟩:=hz.cells (gN hT hk)
   obtain⟨cc',k1,k2,k3⟩:=n0 _ h3 b1 b2 g1 g2
   refine⟨.agg cc',?_,k2.agg k3⟩
   simp only[Instr.build,Sem.run_bind,hzr w,hu w,aY hT (aT hall),Result.andThen_ok]
   rw[k1]
   rfl
  ·simp at h
 ·simp at h
theorem lJ(P:Program)(isS:Bool)(len cap:Nat)(lo hi:Option Value)(l h:Int)(hlo:lo=none∧l=0∨∃k,lo=some (.int k l))(hhi:hi=none∧h=len∨∃k,hi=some (.int k h))
  (h0:0≤l) (h1:l≤h) (h2:h≤cap) (w:World):(Instr.sliceBounds isS len cap lo hi none).run P w= .ok (l.toNat,h.toNat,cap) w:=by
 have e2:0≤h:=by omega
 obtain⟨h,rfl⟩:=Int.eq_ofNat_of_zero_le e2
 obtain⟨l,rfl⟩:=Int.eq_ofNat_of_zero_le h0
 have e1:(l:Int)≤(h:Int):=by omega
 have e3:l≤h:=by omega
 have e4:h≤cap:=by omega
 rcases hlo with⟨rfl,el⟩ | ⟨k,rfl⟩<;> rcases hhi with⟨rfl,eh⟩ | ⟨k',rfl⟩<;>
  (try (have e5:len=h:=by omega))<;> (try (have e6:l=0:=by omega))<;> simp_all [Instr.sliceBounds,Instr.sliceBound,asIntOf]
theorem ku{fr:Fr}{a:Act}(hF:FR K n N fr a.tmps){x:Option Operand}{d h:Int}(hx:(match x with | none=>some d | some h=>match aH fr h with | some (.int _ h)=>some h | _=>none)=some h) :
  (x.map a.eval)=none∧h=d∨∃k,(x.map a.eval)=some (.int k h):=by
 cases x with
 | none=>simp at hx;exact .inl ⟨rfl,hx.symm⟩
 | some x=>
  simp only at hx
  split at hx
  ·rename_i k i hi
   simp at hx;subst hx
   exact .inr ⟨k,by simp[(ak hF hi).bY]⟩
  ·simp at hx
theorem GM(hT:b9 P ty)(hE:oN P ty){fr:Fr}{a:Act}{o:Oper}{v:AV}(hF:FR K n N fr a.tmps)(h:pop ty fr o.type o.op=some v)(w:World) :
  ∃c,(execOp a.eval o).run P w= .ok (.value c) w∧VR K n v c:=by
 obtain⟨dst,op,type,pos,after,guard⟩:=o
 simp only at h
 cases op with
 | move x=>exact⟨_,rfl,ak hF h⟩
 | assign x=>exact⟨_,rfl,ak hF h⟩
 | pick c x y=>
  simp only[pop] at h
  split at h
  ·rename_i cb va vb h1 h2 h3
   simp at h;subst h
   have g1:=(ak hF h1).dX
   refine⟨if cb then a.eval x else a.eval y,by simp[execOp,g1,asBool],?_⟩
   cases cb
   ·simpa using ak hF h3
   ·simpa using ak hF h2
  ·simp at h
 | build t parts=>
  obtain⟨c,h1,h2⟩:=Bq hT hF h w
  exact⟨c,by simp only[execOp,Sem.run_bind,h1,Result.andThen_ok];rfl,h2⟩
 | fieldAddr t x f=>
  simp only[pop] at h
  split at h
  ·rename_i fs r off h1 h2
   split at h
   ·rename_i p hp
    split at h
    ·simp at h
    ·rename_i hz
     simp only[not_or] at hz
     simp at h;subst h
     have hk:(ty t).kd≠ .other:=by rw[h1];simp
     obtain⟨d,hd,hu⟩:=aL hT hk
     rw[h1] at hd
     obtain⟨fields,rfl,rfl⟩:=hd
     simp only[List.getElem?_map,Option.map_eq_some_iff,Array.getElem?_toList] at hp
     obtain⟨fd,hfd,rfl⟩:=hp
     obtain⟨hr,hq⟩:=(ak hF h2).gl
     refine⟨_,?_,.ptr r (off+fd.offset) hr⟩
     simp[execOp,Instr.fieldAt,hu w,hfd,hq,Instr.sureAddr,jL hT (kT hz.1) hz.2,cZ]
   ·simp at h
  ·rename_i fs cs off h1 h2
   split at h
   ·rename_i p hp
    split at h
    ·simp at h
    ·rename_i hz
     simp only[not_or] at hz
     simp at h;subst h
     have hk:(ty t).kd≠ .other:=by rw[h1];simp
     obtain⟨d,hd,hu⟩:=aL hT hk
     rw[h1] at hd
     obtain⟨fields,rfl,rfl⟩:=hd
     simp only[List.getElem?_map,Option.map_eq_some_iff,Array.getElem?_toList] at hp
     obtain⟨fd,hfd,rfl⟩:=hp
     obtain⟨b,o,hq,hd⟩:=VR.oc (d:=fd.offset) (ak hF h2)
     refine⟨_,?_,hd fd.offset⟩
     simp[execOp,Instr.fieldAt,hu w,hfd,hq,Instr.sureAddr,jL hT (kT hz.1) hz.2,cZ,Nat.add_assoc]
   ·simp at h
  ·rename_i fs r m sz i off h1 h2
   split at h
   ·rename_i p hp
    split at h
    ·simp at h
    ·rename_i hz
     simp only[not_or] at hz
     simp at h;subst h
     have hk:(ty t).kd≠ .other:=by rw[h1];simp
     obtain⟨d,hd,hu⟩:=aL hT hk
     rw[h1] at hd
     obtain⟨fields,rfl,rfl⟩:=hd
     simp only[List.getElem?_map,Option.map_eq_some_iff,Array.getElem?_toList] at hp
     obtain⟨fd,hfd,rfl⟩:=hp
     obtain⟨b,o,hq,hd⟩:=VR.nN (ak hF h2)
     refine⟨_,?_,hd sz i (off+fd.offset)⟩
     simp[execOp,Instr.fieldAt,hu w,hfd,hq,Instr.sureAddr,jL hT (kT hz.1) hz.2,cZ,Nat.add_assoc]
   ·simp at h
  ·simp at h
 | field t x f=>
  simp only[pop] at h
  split at h
  ·rename_i fs cs h1 h2
   split at h
   ·rename_i p hp
    have hk:(ty t).kd≠ .other:=by rw[h1];simp
    obtain⟨d,hd,hu⟩:=aL hT hk
    rw[h1] at hd
    obtain⟨fields,rfl,rfl⟩:=hd
    simp only[List.getElem?_map,Option.map_eq_some_iff,Array.getElem?_toList] at hp
    obtain⟨fd,hfd,rfl⟩:=hp
    obtain⟨cc,hq,hc,h1'⟩:=(ak hF h2).ik
    obtain⟨c,g1,g2,_⟩:=wu hT hc h1' h w
    exact⟨c,by simp[execOp,Instr.field,hu w,hfd,hq,asAgg,g1],g2⟩
   ·simp at h
  ·simp at h
 | index t x i=>
  simp only[pop] at h
  split at h
  ·rename_i m e cs k i' h1 h2 h3
   split at h
   ·rename_i hb
    have hk:(ty t).kd≠ .other:=by rw[h1];simp
    obtain⟨d,hd,hu⟩:=aL hT hk
    rw[h1] at hd
    simp only[bV] at hd;subst hd
    obtain⟨cc,hq,hc,h1'⟩:=(ak hF h2).ik
    have hke:(ty e).kd≠ .other:=by intro e';rw[e'] at h;simp[TK.agg,ff] at h
    obtain⟨c,g1,g2,_⟩:=wu hT hc h1' h w
    refine⟨c,?_,g2⟩
    simp[execOp,Instr.index,(ak hF h3).bY,asIntOf,hu w,hq,hb,aY hT hke,g1]
   ·simp at h
  ·rename_i s k i' h1 h2 h3
   split at h
   ·rename_i hb
    simp only[Option.map_eq_some_iff] at h
    obtain⟨b,hb',rfl⟩:=h
    have hk:(ty t).kd≠ .other:=by rw[h1];simp
    obtain⟨d,hd,hu⟩:=aL hT hk
    rw[h1] at hd
    simp only[bV] at hd;subst hd
    refine⟨.int .u8 b.toNat,?_,.int _ _⟩
    simp[execOp,Instr.index,(ak hF h3).bY,(ak hF h2).eR,asIntOf,hu w,hb,hb']
   ·simp at h
  ·simp at h
 | indexAddr t x i=>
  simp only[pop] at h
  split at h
  ·rename_i e tk sz xs k i' h1 h2 h3
   split at h
   ·rename_i hb
    simp only[Option.map_eq_some_iff,idx] at h
    obtain⟨x',hx',rfl⟩:=h
    split at hx'
    ·rename_i h0
     have hk:(ty t).kd≠ .other:=by rw[h1];simp
     obtain⟨d,hd,hu⟩:=aL hT hk
     rw[h1] at hd
     simp only[bV] at hd;subst hd
     obtain⟨b,o,cap,hq,he⟩:=Ib (ak hF h2) hx'
     have hlt:i'.toNat<xs.length:=(List.getElem?_eq_some_iff.1 hx').1
     have hlt':i'<xs.length:=by omega
     refine⟨_,?_,he⟩
     simp[execOp,Instr.indexAt,(ak hF h3).bY,asIntOf,hu w,hq,h0,hlt',aY hT (aT hb.2),cZ,hb.1]
    ·simp at hx'
   ·simp at h
  ·rename_i e r off len k i' h1 h2 h3
   split at h
   ·rename_i hb
    simp at h;subst h
    have hk:(ty t).kd≠ .other:=by rw[h1];simp
    obtain⟨d,hd,hu⟩:=aL hT hk
    rw[h1] at hd
    simp only[bV] at hd;subst hd
    have hx:=ak hF h2
    generalize hq:a.eval x=q at hx
    cases hx with
    | arr _ _ _ ad cap hr hl ha=>
     have ha':ad=some ⟨K.φ r,off,none⟩:=ha.resolve_left (by omega)
     subst ha'
     refine⟨_,?_,.ptr r _ hr⟩
     simp[execOp,Instr.indexAt,(ak hF h3).bY,asIntOf,hu w,hq,hb.1,hb.2.1,aY hT (aT hb.2.2),cZ]
   ·simp at h
  ·rename_i e r len k i' h1 h2 h3
   split at h
   ·rename_i hb
    simp at h;subst h
    have hk:(ty t).kd≠ .other:=by rw[h1];simp
    obtain⟨d,hd,hu⟩:=aL hT hk
    rw[h1] at hd
    simp only[bV] at hd;subst hd
    have hx:=ak hF h2
    generalize hq:a.eval x=q at hx
    cases hx with
    | vec _ _ ad cap hr hl ht ha=>
     obtain⟨b,o,rfl⟩:=ha.resolve_left (by omega)
     refine⟨_,?_,.vptr r len (ty e).sz i'.toNat 0 b o cap hr ht⟩
     simp[execOp,Instr.indexAt,(ak hF h3).bY,asIntOf,hu w,hq,hb.1,hb.2.1,aY hT (aT hb.2.2),cZ]
   ·simp at h
  ·rename_i m e r m' sz k' off k i' h1 h2 h3
   split at h
   ·rename_i hb
    simp at h;subst h
    have hk:(ty t).kd≠ .other:=by rw[h1];simp
    obtain⟨d,hd,hu⟩:=aL hT hk
    rw[h1] at hd
    simp only[bV] at hd;subst hd
    obtain⟨b,o,hq,hd⟩:=VR.nN (ak hF h2)
    refine⟨_,?_,hd _ _ _⟩
    simp[execOp,Instr.indexAt,(ak hF h3).bY,asIntOf,hu w,hq,hb.1,hb.2.1,aY hT (aT hb.2.2.2),cZ,Instr.sureAddr,Nat.add_assoc]
   ·simp at h
  ·rename_i m e r off k i' h1 h2 h3
   split at h
   ·rename_i hb
    simp at h;subst h
    have hk:(ty t).kd≠ .other:=by rw[h1];simp
    obtain⟨d,hd,hu⟩:=aL hT hk
    rw[h1] at hd
    simp only[bV] at hd;subst hd
    obtain⟨hr,hq⟩:=(ak hF h2).gl
    refine⟨_,?_,.ptr r _ hr⟩
    simp[execOp,Instr.indexAt,(ak hF h3).bY,asIntOf,hu w,hq,hb.1,hb.2.1,aY hT (aT hb.2.2.2),cZ,Instr.sureAddr]
   ·simp at h
  ·rename_i m e cs off k i' h1 h2 h3
   split at h
   ·rename_i hb
    simp at h;subst h
    have hk:(ty t).kd≠ .other:=by rw[h1];simp
    obtain⟨d,hd,hu⟩:=aL hT hk
    rw[h1] at hd
    simp only[bV] at hd;subst hd
    obtain⟨b,o,hq,hd⟩:=VR.oc (d:=0) (ak hF h2)
    refine⟨_,?_,hd _⟩
    simp[execOp,Instr.indexAt,(ak hF h3).bY,asIntOf,hu w,hq,hb.1,hb.2.1,aY hT (aT hb.2.2.2),cZ,Instr.sureAddr,Nat.add_assoc]
   ·simp at h
  ·simp at h
 | nilCheck x=>
  simp only[pop] at h
  split at h
  ·rename_i r off h1
   simp at h;subst h
   have hx:=ak hF h1
   obtain⟨hr,hq⟩:=hx.gl
   exact⟨_,by simp[execOp,hq],.ptr r off hr⟩
  ·rename_i cs off h1
   simp at h;subst h
   have hx:=ak hF h1
   obtain⟨b,o,hq,hd⟩:=VR.oc (d:=0) hx
   exact⟨.pointer (some ⟨b,o+off,none⟩),by simp[execOp,hq],by simpa using hd 0⟩
  ·rename_i r m sz i off h1
   simp at h;subst h
   have hx:=ak hF h1
   obtain⟨b,o,hq,hd⟩:=VR.nN hx
   exact⟨.pointer (some ⟨b,o+(i*sz+off),none⟩),by simp[execOp,hq],hd _ _ _⟩
  ·rename_i f p q h1
   simp at h;subst h
   have hx:=ak hF h1
   generalize hq:a.eval x=c at hx
   cases hx with
   | fn _ _ _ p' q' e1 e2 g1 g2=>exact⟨_,by simp[execOp,hq],.fn _ _ _ p' q' e1 e2 g1 g2⟩
  ·simp at h
 | binOp op t x y yt=>
  simp only[pop] at h
  split at h
  ·rename_i k p k' q h1 h2
   obtain⟨c,g1,g2⟩:=ET (K:=K) (n:=n) (P:=P) h t w
   refine⟨c,?_,g2⟩
   simp[execOp,(ak hF h1).bY,(ak hF h2).bY,Al,g1]
  ·rename_i p q h1 h2
   split at h
   ·rename_i he
    split at h
    ·rename_i xs ys hx hy
     split at h
     ·rename_i hl
      simp at h;subst h
      obtain⟨cc,hq,hc,_⟩:=(ak hF h1).ik
      obtain⟨cc',hq',hc',_⟩:=(ak hF h2).ik
      have e1:=ep hx hc
      have e2:=ep hy hc'
      have:=hE.eq t he xs ys w hl.1 hl.2
      rw[← e1,← e2] at this
      refine⟨_,?_,.bool _⟩
      simp only[Array.toArray_toList] at this
      simp[execOp,hq,hq',qM (hE.guard t he),binOp,this]
     ·simp at h
    ·rename_i xs ys hx hy
     split at h
     ·rename_i hl
      simp at h;subst h
      obtain⟨cc,hq,hc,_⟩:=(ak hF h1).ik
      obtain⟨cc',hq',hc',_⟩:=(ak hF h2).ik
      have e1:=ep hx hc
      have e2:=ep hy hc'
      have:=hE.eq t he xs ys w hl.1 hl.2
      rw[← e1,← e2] at this
      simp only[Array.toArray_toList] at this
      refine⟨.bool (xs !=ys),?_,.bool _⟩
      simp only[execOp,hq,hq',Sem.run_bind,qM (hE.guard t he),binOp,this,Result.andThen_ok,Sem.run_pure,bne]
     ·simp at h
    ·simp at h
   ·simp at h
  ·rename_i p q h1 h2
   split at h
   ·rename_i hk
    simp at h;subst h
    have hk':(ty t).kd≠ .other:=by rw[hk];simp
    obtain⟨d,hu,hd⟩:=(hT t hk').kd
    rw[hk] at hd;simp only[bV] at hd;subst hd
    have:=run_equalIn_bool' (P:=P) w 9999 t p q hu
    exact⟨_,by simp only[execOp,(ak hF h1).dX,(ak hF h2).dX,Sem.run_bind,pR,binOp,Op.equal,Op.maxDepth,this,Result.andThen_ok,Sem.run_pure],.bool _⟩
   ·rename_i hk
    simp at h;subst h
    have hk':(ty t).kd≠ .other:=by rw[hk];simp
    obtain⟨d,hu,hd⟩:=(hT t hk').kd
    rw[hk] at hd;simp only[bV] at hd;subst hd
    have:=run_equalIn_bool' (P:=P) w 9999 t p q hu
    exact⟨_,by simp only[execOp,(ak hF h1).dX,(ak hF h2).dX,Sem.run_bind,pR,binOp,Op.equal,Op.maxDepth,this,Result.andThen_ok,Sem.run_pure,bne],.bool _⟩
   ·simp at h
  ·rename_i p q h1 h2
   split at h
   ·simp at h;subst h
    exact⟨_,by simp[execOp,(ak hF h1).eR,(ak hF h2).eR,mC,binOp,Op.stringOp],.bool _⟩
   ·simp at h;subst h
    exact⟨_,by simp[execOp,(ak hF h1).eR,(ak hF h2).eR,mC,binOp,Op.stringOp],.bool _⟩
   ·split at h
    ·rename_i hl
     simp at h;subst h
     refine⟨.string (p++q),?_,.str _⟩
     have hl':¬((p.size+q.size:Nat):Int)>IntKind.i64.max:=by simp[IntKind.max,IntKind.signed,IntKind.bits];omega
     simp only[execOp,(ak hF h1).eR,(ak hF h2).eR,Sem.run_bind,mC,binOp,Op.stringOp,Result.andThen_ok,if_neg hl',Sem.run_pure]
    ·simp at h
   ·simp at h
  ·simp at h
 | unOp op t x=>
  simp only[pop] at h
  split at h
  ·rename_i b h1
   simp at h;subst h
   exact⟨_,by simp[execOp,(ak hF h1).dX,Op.unary],.bool _⟩
  ·rename_i k i h1
   simp at h;subst h
   exact⟨_,by simp[execOp,(ak hF h1).bY,Op.unary,Op.intArith],.int _ _⟩
  ·simp at h
 | convert s d x=>
  simp only[pop] at h
  split at h
  ·rename_i k k' k'' i h1 h2 h3
   simp at h;subst h
   have hk1:(ty s).kd≠ .other:=by rw[h1];simp
   have hk2:(ty d).kd≠ .other:=by rw[h2];simp
   obtain⟨d1,hd1,hu1⟩:=aL hT hk1
   obtain⟨d2,hd2,hu2⟩:=aL hT hk2
   rw[h1] at hd1;rw[h2] at hd2
   simp only[bV] at hd1 hd2;subst hd1;subst hd2
   exact⟨_,by simp[execOp,(ak hF h3).bY,convert,hu1 w,hu2 w,Conv.intToInt],.int _ _⟩
  ·simp at h
 | makeInterface t x=>
  simp only[pop] at h
  split at h
  ·simp at h
  ·simp at h
  ·rename_i v' h3 h1 h2
   simp at h;subst h
   obtain⟨d,hd,hu⟩:=aL hT h2
   refine⟨.iface t (a.eval x),?_,.iface t _ _ (ak hF h3)⟩
   simp only[execOp,Instr.makeInterface,Sem.run_bind,hu w,Result.andThen_ok]
   generalize (ty t).kd=kd at *
   cases kd<;> simp only[bV,ne_eq,not_true_eq_false,reduceCtorEq] at hd h1 h2
   case strct=>obtain⟨f,rfl,_⟩:=hd;rfl
   case func=>obtain⟨a,b,c,rfl⟩:=hd;rfl
   case chan=>obtain⟨a,b,rfl⟩:=hd;rfl
   all_goals first | (exact(h1 trivial).elim) | (exact(h2 trivial).elim) | (subst hd;rfl)
  ·simp at h
 | makeFunc f p q=>
  simp only[pop] at h
  split at h
  ·rename_i p' q' h1 h2
   simp at h;subst h
   refine⟨.func f (p.map a.eval) (q.map a.eval),by simp[execOp,Instr.makeFunc],VRs.fn ?_ ?_⟩
   ·simpa using cg hF h1
   ·simpa using cg hF h2
  ·simp at h
 | extract x i=>
  simp only[pop] at h
  split at h
  ·rename_i vs h1
   obtain⟨cc,hq,hc⟩:=(ak hF h1).BK
   obtain⟨c,g1,g2⟩:=hc.get h
   simp at g1
   exact⟨c,by simp[execOp,Instr.extract,hq,g1],g2⟩
  ·simp at h
 | typeAssert x xt t ok=>
  simp only[pop] at h
  split at h
  ·simp at h
  ·simp at h
  ·rename_i u v' h3 h1 h2
   obtain⟨d,hd,hu⟩:=aL hT h2
   obtain⟨z,hz,hzr⟩:=fl (K:=K) (n:=n) hT h2
   have hx:=ak hF h3
   generalize hq:a.eval x=q at hx
   cases hx with
   | iface _ _ c hc=>
    have hrun:∀b,(Instr.typeAssert (.iface u c) xt t b).run P w=(if u=t then Result.ok (if b then Value.tuple #[c,.bool true] else c) w else if b then .ok (.tuple #[z,.bool false]) w else(runtimePanic (.typeAssertion (some xt) (some u) t ""):Sem Value).run P w):=by
     intro b
     simp only[Instr.typeAssert,Sem.run_bind,hu w,Result.andThen_ok]
     generalize (ty t).kd=kd at *
     cases kd<;> simp only[bV,ne_eq,not_true_eq_false,reduceCtorEq] at hd h1 h2
     case strct=>obtain⟨f,rfl,_⟩:=hd;by_cases e:u=t<;> cases b<;> simp[e,hzr w]
     case func=>obtain⟨p1,p2,p3,rfl⟩:=hd;by_cases e:u=t<;> cases b<;> simp[e,hzr w]
     case chan=>obtain⟨p1,p2,rfl⟩:=hd;by_cases e:u=t<;> cases b<;> simp[e,hzr w]
     all_goals first | (exact(h1 trivial).elim) | (exact(h2 trivial).elim) | (subst hd;by_cases e:u=t<;> cases b<;> simp[e,hzr w])
    split at h
    ·rename_i hok
     split at h
     ·simp at h;subst h
      by_cases e:u=t
      ·refine⟨.tuple #[c,.bool true],by simp only[execOp,Sem.run_bind,hq,hrun,hok,if_pos e,Result.andThen_ok,if_true,Sem.run_pure],?_⟩
       rw[if_pos e]
       exact VRs.tup (cs:=#[c,.bool true]) (.cons hc (.cons (.bool true) .nil))
      ·refine⟨.tuple #[z,.bool false],by simp only[execOp,Sem.run_bind,hq,hrun,hok,if_neg e,Result.andThen_ok,if_true,Sem.run_pure],?_⟩
       rw[if_neg e]
       exact VRs.tup (cs:=#[z,.bool false]) (.cons hz (.cons (.bool false) .nil))
     ·simp at h
    ·rename_i hok
     split at h
     ·rename_i e
      simp at h;subst h
      exact⟨c,by simp only[execOp,Sem.run_bind,hq,hrun,if_pos e,Result.andThen_ok,if_neg hok,Sem.run_pure],hc⟩
     ·simp at h
  ·simp at h
 | slice t x lo hi mx=>
  simp only[pop] at h
  split at h
  ·rename_i e tk sz xs h1 h2
   split at h
   ·rename_i h' l' hh hl
    split at h
    ·rename_i hb
     simp at h;subst h
     have hk:(ty t).kd≠ .other:=by rw[h1];simp
     obtain⟨d,hd,hu⟩:=aL hT hk
     rw[h1] at hd
     simp only[bV] at hd;subst hd
     have hx:=ak hF h2
     generalize hq:a.eval x=c at hx
     have hx':=hx
     cases hx' with
     | list _ _ _ ad cap f g1 g2 g3 g4 g5 g6=>
      have hs:=lJ P true xs.length cap (lo.map a.eval) (hi.map a.eval) l' h' (ku hF hl) (ku hF hh) hb.2.2.1 hb.2.2.2.1 (by omega) w
      refine⟨_,?_,hx.H8 (lo:=l'.toNat) (hi:=h'.toNat) (by omega) (by omega)⟩
      simp only[execOp,Instr.sliceAt,Instr.slice,hq,Sem.run_bind,hu w,Result.andThen_ok,Option.map_none,hs,aY hT (aT hb.2.1),Sem.run_pure,hb.1]
    ·simp at h
   ·simp at h
  ·rename_i n' e r off h1 h2
   split at h
   ·rename_i hb
    simp at h;subst h
    obtain⟨rfl,rfl,hb⟩:=hb
    have hk:(ty t).kd≠ .other:=by rw[h1];simp
    obtain⟨d,hd,hu⟩:=aL hT hk
    rw[h1] at hd
    simp only[bV] at hd;subst hd
    have hx:=ak hF h2
    generalize hq:a.eval x=c at hx
    cases hx with
    | ptr _ _ hr=>
     have hs:=lJ P false n' n' none none 0 n' (.inl ⟨rfl,rfl⟩) (.inl ⟨rfl,rfl⟩) (by omega) (by omega) (by omega) w
     refine⟨_,?_,.arr r off n' (some ⟨K.φ r,off,none⟩) n' hr (Nat.le_refl _) (.inr rfl)⟩
     simp only[execOp,Instr.sliceAt,hq,Instr.sureAddr,Sem.run_bind,Sem.run_pure,hu w,Result.andThen_ok,Option.map_none,hs,aY hT (aT hb)]
     simp[cZ]
   ·simp at h
  ·rename_i s h1 h2
   split at h
   ·rename_i h' l' hh hl
    split at h
    ·rename_i hb
     simp at h;subst h
     have hk:(ty t).kd≠ .other:=by rw[h1];simp
     obtain⟨d,hd,hu⟩:=aL hT hk
     rw[h1] at hd
     simp only[bV] at hd;subst hd
     have hs:=lJ P false s.size s.size (lo.map a.eval) (hi.map a.eval) l' h' (ku hF hl) (ku hF hh) hb.1 hb.2.1 hb.2.2 w
     refine⟨_,?_,.str _⟩
     simp[execOp,Instr.sliceAt,Instr.slice,(ak hF h2).eR,hu w,hs]
    ·simp at h
   ·simp at h
  ·simp at h
 | call c=>
  obtain⟨callee,args,ats⟩:=c
  cases callee with
  | builtin b=>
   simp only[pop] at h
   split at h
   ·rename_i v' h1
    split at h
    ·rename_i t ht
     cases hm:uR (ty t).kd v' with
     | none=>rw[hm] at h;simp at h
     | some m=>
     rw[hm] at h
     simp at h;subst h
     have hv:=cg hF h1
     have hl:args.toList.length=1:=by have:=hv.1;simp at this;simpa using this.symm
     obtain⟨x,hx⟩:=List.length_eq_one_iff.1 hl
     have hx':args= #[x]:=by apply Array.ext';simpa using hx
     subst hx'
     simp at hv
     have:=Cs (hT:=hT) hm hv.head ats ht type w
     exact⟨_,by simp[execOp,resolve,invoke,builtin,this],.int _ _⟩
    ·simp at h
   ·rename_i vs h1
    have hv:=cg hF h1
    cases vs with
    | nil=>simp[D6] at h
    | cons y ys=>
     cases y with
     | int k i=>
      cases hl:args.toList with
      | nil=>have:=hv.1;rw[hl] at this;simp at this
      | cons x xs=>
       rw[hl] at hv
       have g1:=hv.head.bY
       obtain⟨c,g2,g3⟩:=sX (K:=K) (P:=P) h hv.tail w
       refine⟨c,?_,g3⟩
       simp[execOp,resolve,invoke,builtin,Builtin.max_,hl,g1,g2]
     | _=>simp[D6] at h
   ·rename_i vs h1
    have hv:=cg hF h1
    cases vs with
    | nil=>simp[C6] at h
    | cons y ys=>
     cases y with
     | int k i=>
      cases hl:args.toList with
      | nil=>have:=hv.1;rw[hl] at this;simp at this
      | cons x xs=>
       rw[hl] at hv
       have g1:=hv.head.bY
       obtain⟨c,g2,g3⟩:=tK (K:=K) (P:=P) h hv.tail w
       refine⟨c,?_,g3⟩
       simp[execOp,resolve,invoke,builtin,Builtin.min_,hl,g1,g2]
     | _=>simp[C6] at h
   ·simp at h
  | _=>simp[pop] at h
 | _=>simp[pop] at h
theorem heap_alloc_old(w:World)(o:Obj)(k:Nat)(h:k<w.heap.size):(w.alloc o).heap[k]? = w.heap[k]? :=by
 show(w.heap.push o)[k]? = _
 rw[Array.getElem?_push,if_neg (by omega)]
theorem heap_alloc_new(w:World)(o:Obj):(w.alloc o).heap[w.heap.size]? = some o:=by
 show(w.heap.push o)[w.heap.size]? = _
 rw[Array.getElem?_push,if_pos rfl]
theorem fc(w:World)(o:Obj):(w.alloc o).heap.size=w.heap.size+1:=by
 show(w.heap.push o).size=_
 simp
theorem fG{w w':World}{b o:Nat}(h:w'.heap[b]? = w.heap[b]?):w'.cell? ⟨b,o,none⟩= w.cell? ⟨b,o,none⟩:=by
 simp only[World.cell?,h]
theorem bJ{w:World}{b:Nat}{o:Obj}(h:w.heap[b]? = some o):b<w.heap.size:=(Array.getElem?_eq_some_iff.1 h).1
theorem Dl{w:World}{b o:Nat}{v:Value}(h:w.cell? ⟨b,o,none⟩= some v):b<w.heap.size:=by
 unfold World.cell? at h
 cases hb:w.heap[b]? with
 | none=>simp[hb] at h
 | some x=>exact bJ hb
theorem R.lt{σ:List aa}{w:World}(h:R K σ w){b o:Nat}{v:Value}(hS:K.S b o=some v):b<w.heap.size:=Dl (h.stab b o v hS)
theorem eF.gF{w:World}{r b:Nat}{o:aa}(h:eF K n w r o)(hb:cC K r o b):b<w.heap.size:=by
 cases o with
 | cells cs=>obtain⟨cc,E,h1,_⟩:=h;rw[show b=K.φ r from hb];exact bJ h1
 | tail m sz=>
  obtain⟨a,cap,h1,h2,_,h3⟩:=h
  obtain⟨a',cap',g1,g2,rfl⟩:=hb
  rw[h1] at g1;simp at g1;obtain⟨rfl,rfl⟩:=g1
  obtain⟨b,o,cc,E,h4,h5,_⟩:=h3 g2
  simp at h4;subst h4
  exact bJ h5
 | map es=>obtain⟨cc,E,h1,_⟩:=h;rw[show b=K.φ r from hb];exact bJ h1
 | iter m c s=>obtain⟨cc,h1,_⟩:=h;rw[show b=K.φ r from hb];exact bJ h1
 | siter s p=>have h1:w.heap[K.φ r]? = some (.stringIter s p):=h;rw[show b=K.φ r from hb];exact bJ h1
 | loop=>obtain⟨cc,h1,_⟩:=h;rw[show b=K.φ r from hb];exact bJ h1
 | vec sz xs=>
  obtain⟨a,cap,h1,h2,_,_,h3⟩:=h
  obtain⟨a',cap',g1,g2,rfl⟩:=hb
  rw[h1] at g1;simp at g1;obtain⟨rfl,rfl⟩:=g1
  obtain⟨b,o,cc,E,h4,h5,_⟩:=h3 g2
  simp at h4;subst h4
  exact bJ h5
 | dead=>exact hb.elim
theorem eF.mono{K K':Kr}{n n':Nat}{w w':World}{r:Nat}{o:aa}(h:eF K n w r o)(hr:r<n)(he:Ext n K K')(hn:n≤n')(htl:K'.tl r=K.tl r)
  (hb:∀b,cC K r o b→w'.heap[b]? = w.heap[b]?∧∀p,K'.S b p=K.S b p):eF K' n' w' r o:=by
 cases o with
 | cells cs=>
  obtain⟨cc,E,h1,h2,h3,h4⟩:=h
  obtain⟨g1,g2⟩:=hb (K.φ r) rfl
  refine⟨cc,E,?_,h2.mono he hn,h3,fun o=>?_⟩
  ·rw[he.φ r hr,g1];exact h1
  ·rw[he.φ r hr,g2];exact h4 o
 | tail m sz=>
  obtain⟨a,cap,h1,h2,h2',h3⟩:=h
  refine⟨a,cap,he.tl r hr _ _ h1,h2,by rw[htl];exact h2',fun hc=>?_⟩
  obtain⟨b,o,cc,E,rfl,h4,h5,h6⟩:=h3 hc
  obtain⟨g1,g2⟩:=hb b ⟨_,cap,h1,hc,rfl⟩
  exact⟨b,o,cc,E,rfl,by rw[g1];exact h4,h5,fun p hp=>by rw[g2];exact h6 p hp⟩
 | map es=>
  obtain⟨es',clock,h1,h2⟩:=h
  obtain⟨g1,g2⟩:=hb (K.φ r) rfl
  exact⟨es',clock,by rw[he.φ r hr,g1];exact h1,h2.1,h2.2.1,fun i a b=>by
   obtain⟨k1,k2,k3⟩:=h2.2.2 i a b
   exact⟨k1.mono he hn,k2.mono he hn,k3⟩⟩
 | iter m c s=>
  obtain⟨m',h1,h2⟩:=h
  obtain⟨g1,g2⟩:=hb (K.φ r) rfl
  refine⟨m',by rw[he.φ r hr,g1];exact h1,?_⟩
  cases m with
  | none=>exact h2
  | some q=>exact⟨by have:=h2.1;omega,by rw[he.φ q h2.1];exact h2.2⟩
 | siter s p=>
  obtain⟨g1,g2⟩:=hb (K.φ r) rfl
  show w'.heap[K'.φ r]? = _
  rw[he.φ r hr,g1];exact h
 | loop st pend fn params assign body N fr=>
  obtain⟨l,h1,h2,h3,h4,h5,h6,h7,h8⟩:=h
  obtain⟨g1,g2⟩:=hb (K.φ r) rfl
  exact⟨l,by rw[he.φ r hr,g1];exact h1,h2,h3,h4,h5,h6,h7,h8.mono he hn⟩
 | vec sz xs=>
  obtain⟨a,cap,h1,h2,h2',h2'',h3⟩:=h
  refine⟨a,cap,he.tl r hr _ _ h1,h2,by rw[htl];exact h2',h2'',fun hc=>?_⟩
  obtain⟨b,o,cc,E,rfl,h4,h5,h6,h7,h8⟩:=h3 hc
  obtain⟨g1,g2⟩:=hb b ⟨_,cap,h1,hc,rfl⟩
  exact⟨b,o,cc,E,rfl,by rw[g1];exact h4,h5,h6.mono he hn,h7,fun p=>by rw[g2];exact h8 p⟩
 | dead=>trivial
theorem cC.ext{K K':Kr}{n:Nat}{w:World}{r b:Nat}{o:aa}(hr:r<n)(he:Ext n K K')(hO:eF K n w r o)(h:cC K' r o b):cC K r o b:=by
 cases o with
 | cells cs=>exact(show b=K'.φ r from h).trans (he.φ r hr)
 | tail m sz=>
  obtain⟨a,cap,h1,_⟩:=hO
  obtain⟨a',cap',g1,g2,g3⟩:=h
  have:=he.tl r hr _ _ h1
  rw[this] at g1;simp at g1;obtain⟨rfl,rfl⟩:=g1
  exact⟨a',cap,h1,g2,g3⟩
 | map es=>exact(show b=K'.φ r from h).trans (he.φ r hr)
 | iter m c s=>exact(show b=K'.φ r from h).trans (he.φ r hr)
 | siter s p=>exact(show b=K'.φ r from h).trans (he.φ r hr)
 | loop=>exact(show b=K'.φ r from h).trans (he.φ r hr)
 | vec sz xs=>
  obtain⟨a,cap,h1,_⟩:=hO
  obtain⟨a',cap',g1,g2,g3⟩:=h
  have:=he.tl r hr _ _ h1
  rw[this] at g1;simp at g1;obtain⟨rfl,rfl⟩:=g1
  exact⟨a',cap,h1,g2,g3⟩
 | dead=>exact h
theorem R.newAt{σ σ':List aa}{w:World}(h:R K σ w)(r:Nat)(o:aa)(co:Obj)(K':Kr)(he:Ext σ.length K K')
  (hlen:σ.length≤σ'.length) (hlen':r<σ'.length) (hro:σ'[r]? = some o) (hrest:∀q o',q≠r→σ'[q]? = some o'→σ[q]? = some o')
  (htl:∀q,q≠r→K'.tl q=K.tl q)
  (hS:∀b p v,K'.S b p=some v→K.S b p=some v∨(b=w.heap.size∧(w.alloc co).cell? ⟨b,p,none⟩= some v))
  (hB:∀b,cC K' r o b→b=w.heap.size)
  (hO:eF K' σ'.length (w.alloc co) r o):R K' σ' (w.alloc co)∧Step K σ w K' σ' (w.alloc co):=by
 have hold:∀b p,b<w.heap.size→K'.S b p=K.S b p:=fun b p hb=>by
  cases hk:K.S b p with
  | some v=>exact he.S _ _ _ hk
  | none=>
   cases hk':K'.S b p with
   | none=>rfl
   | some v=>
    rcases hS b p v hk' with h1 | ⟨h1,_⟩
    ·rw[hk] at h1;cases h1
    ·omega
 have hlt:∀{r o},σ[r]? = some o→r<σ.length:=fun h=>(List.getElem?_eq_some_iff.1 h).1
 have ai:∀q o',σ'[q]? = some o'→(q≠r∧σ[q]? = some o')∨(q=r∧o'=o):=fun q o' hq=>by
  by_cases e:q=r
  ·subst e;rw[hro] at hq;simp at hq;exact .inr ⟨rfl,hq.symm⟩
  ·exact .inl ⟨e,hrest q o' e hq⟩
 refine C8 (fun hs=>⟨fun b p v hv=>?_,fun q o' hq=>?_,fun q q' o1 o2 b h1 h2 b1 b2=>?_,h.Dc hs⟩) ?_
 ·rcases hS b p v hv with h1 | ⟨_,h1⟩
  ·rw[fG (heap_alloc_old w co b (h.lt h1))];exact h.stab b p v h1
  ·exact h1
 ·rcases ai q o' hq with⟨e,h1⟩ | ⟨rfl,rfl⟩
  ·have hO':=h.obj q o' h1
   exact hO'.mono (hlt h1) he hlen (htl q e) fun b hb=>⟨heap_alloc_old w co b (hO'.gF hb),fun p=>hold b p (hO'.gF hb)⟩
  ·exact hO
 ·rcases ai q o1 h1 with⟨e1,g1⟩ | ⟨rfl,rfl⟩<;> rcases ai q' o2 h2 with⟨e2,g2⟩ | ⟨rfl,rfl⟩
  ·exact h.inj q q' o1 o2 b g1 g2 (b1.ext (hlt g1) he (h.obj q o1 g1)) (b2.ext (hlt g2) he (h.obj q' o2 g2))
  ·have:=(h.obj q o1 g1).gF (b1.ext (hlt g1) he (h.obj q o1 g1))
   have:=hB b b2;omega
  ·have:=(h.obj q' o2 g2).gF (b2.ext (hlt g2) he (h.obj q' o2 g2))
   have:=hB b b1;omega
  ·rfl
 ·refine⟨he,hlen,by rw[fc];omega,fun b hb hf=>⟨heap_alloc_old w co b hb,fun q o' hq hb'=>?_,fun p=>hold b p hb⟩,rfl,rfl,rfl,fun b hb=>by rw[heap_alloc_old w co b hb],Nat.le_refl _⟩
  rcases ai q o' hq with⟨e,g1⟩ | ⟨rfl,rfl⟩
  ·exact hf q o' g1 (hb'.ext (hlt g1) he (h.obj q o' g1))
  ·have:=hB b hb';omega
theorem R.new{σ:List aa}{w:World}(h:R K σ w)(o:aa)(co:Obj)(K':Kr)(he:Ext σ.length K K')(htl:∀q,q≠σ.length→K'.tl q=K.tl q)
  (hS:∀b p v,K'.S b p=some v→K.S b p=some v∨(b=w.heap.size∧(w.alloc co).cell? ⟨b,p,none⟩= some v))
  (hB:∀b,cC K' σ.length o b→b=w.heap.size)
  (hO:eF K' (σ.length+1) (w.alloc co) σ.length o):R K' (σ++[o]) (w.alloc co)∧Step K σ w K' (σ++[o]) (w.alloc co):=
 h.newAt σ.length o co K' he (by simp) (by simp) (by simp) (fun q o' hq hg=>by
  rw[List.getElem?_append] at hg
  split at hg
  ·exact hg
  ·cases hk:q-σ.length with
   | zero=>omega
   | succ j=>rw[hk] at hg;simp at hg) htl hS hB (by simpa using hO)
theorem R.iV{σ σ':List aa}{w:World}(h:R K σ w)(r:Nat)(o:aa)(K':Kr)(he:Ext σ.length K K')
  (hlen:σ.length≤σ'.length) (hro:σ'[r]? = some o) (hrest:∀q o',q≠r→σ'[q]? = some o'→σ[q]? = some o')
  (htl:∀q,q≠r→K'.tl q=K.tl q) (hS:K'.S=K.S)
  (hB:∀b,¬cC K' r o b) (hO:eF K' σ'.length w r o):R K' σ' w∧Step K σ w K' σ' w:=by
 have hlt:∀{r o},σ[r]? = some o→r<σ.length:=fun h=>(List.getElem?_eq_some_iff.1 h).1
 have ai:∀q o',σ'[q]? = some o'→(q≠r∧σ[q]? = some o')∨(q=r∧o'=o):=fun q o' hq=>by
  by_cases e:q=r
  ·subst e;rw[hro] at hq;simp at hq;exact .inr ⟨rfl,hq.symm⟩
  ·exact .inl ⟨e,hrest q o' e hq⟩
 refine C8 (fun hs=>⟨fun b p v hv=>h.stab b p v (by rw[← hS];exact hv),fun q o' hq=>?_,fun q q' o1 o2 b h1 h2 b1 b2=>?_,h.Dc hs⟩) ?_
 ·rcases ai q o' hq with⟨e,h1⟩ | ⟨rfl,rfl⟩
  ·exact(h.obj q o' h1).mono (hlt h1) he hlen (htl q e) fun b hb=>⟨rfl,fun p=>by rw[hS]⟩
  ·exact hO
 ·rcases ai q o1 h1 with⟨e1,g1⟩ | ⟨rfl,rfl⟩
  ·rcases ai q' o2 h2 with⟨e2,g2⟩ | ⟨rfl,rfl⟩
   ·exact h.inj q q' o1 o2 b g1 g2 (b1.ext (hlt g1) he (h.obj q o1 g1)) (b2.ext (hlt g2) he (h.obj q' o2 g2))
   ·exact absurd b2 (hB b)
  ·exact absurd b1 (hB b)
 ·refine⟨he,hlen,Nat.le_refl _,fun b hb hf=>⟨rfl,fun q o' hq hb'=>?_,fun p=>by rw[hS]⟩,rfl,rfl,rfl,fun _ _=>rfl,Nat.le_refl _⟩
  rcases ai q o' hq with⟨e,g1⟩ | ⟨rfl,rfl⟩
  ·exact hf q o' g1 (hb'.ext (hlt g1) he (h.obj q o' g1))
  ·exact hB b hb'
theorem R.KO{σ:List aa}{w:World}(h:R K σ w)(co:Obj)(K':Kr)(he:Ext σ.length K K')(htl:K'.tl=K.tl)
  (hS:∀b p v,K'.S b p=some v→K.S b p=some v∨(b=w.heap.size∧(w.alloc co).cell? ⟨b,p,none⟩= some v)):R K' σ (w.alloc co)∧Step K σ w K' σ (w.alloc co):=by
 have hold:∀b p,b<w.heap.size→K'.S b p=K.S b p:=fun b p hb=>by
  cases hk:K.S b p with
  | some v=>exact he.S _ _ _ hk
  | none=>
   cases hk':K'.S b p with
   | none=>rfl
   | some v=>
    rcases hS b p v hk' with h1 | ⟨h1,_⟩
    ·rw[hk] at h1;cases h1
    ·omega
 have hlt:∀{r o},σ[r]? = some o→r<σ.length:=fun h=>(List.getElem?_eq_some_iff.1 h).1
 refine C8 (fun hs=>⟨fun b p v hv=>?_,fun r o' hr=>?_,fun r r' o1 o2 b h1 h2 b1 b2=>?_,h.Dc hs⟩) ?_
 ·rcases hS b p v hv with h1 | ⟨_,h1⟩
  ·rw[fG (heap_alloc_old w co b (h.lt h1))];exact h.stab b p v h1
  ·exact h1
 ·have hO':=h.obj r o' hr
  exact hO'.mono (hlt hr) he (Nat.le_refl _) (by rw[htl]) fun b hb=>⟨heap_alloc_old w co b (hO'.gF hb),fun p=>hold b p (hO'.gF hb)⟩
 ·exact h.inj r r' o1 o2 b h1 h2 (b1.ext (hlt h1) he (h.obj r o1 h1)) (b2.ext (hlt h2) he (h.obj r' o2 h2))
 ·exact⟨he,Nat.le_refl _,by rw[fc];omega,fun b hb hf=>⟨heap_alloc_old w co b hb,fun r o' hr hb'=>hf r o' hr (hb'.ext (hlt hr) he (h.obj r o' hr)),fun p=>hold b p hb⟩,rfl,rfl,rfl,fun b hb=>by rw[heap_alloc_old w co b hb],Nat.le_refl _⟩
theorem R.fP{σ:List aa}{w w':World}(h:R K σ w){r:Nat}{o o':aa}(hr:σ[r]? = some o)(b0:Nat)(hb0:cC K r o b0)(K':Kr)(he:Ext σ.length K K')(htl:∀q,q≠r→K'.tl q=K.tl q)
  (hh:∀b,b≠b0→w'.heap[b]? = w.heap[b]?) (hsz:w'.heap.size=w.heap.size) (hS:∀b p,b≠b0→K'.S b p=K.S b p)
  (hst:∀p v,K'.S b0 p=some v→w'.cell? ⟨b0,p,none⟩= some v)
  (hB:∀b,cC K' r o' b→b=b0) (hO:eF K' σ.length w' r o') (h1:w'.os=w.os) (h2:w'.tape=w.tape) (h3:w'.output=w.output) (h4:frz w'.heap[b0]? = frz w.heap[b0]? :=by rfl) (h5:w.drawn≤w'.drawn:=by first | exact Nat.le_refl _ | exact Nat.le_add_right _ _ | assumption) :
  R K' (σ.set r o') w'∧Step K σ w K' (σ.set r o') w':=by
 have hlt:∀{r o},σ[r]? = some o→r<σ.length:=fun h=>(List.getElem?_eq_some_iff.1 h).1
 have ai:∀q o1,(σ.set r o')[q]? = some o1→(q=r∧o1=o')∨(q≠r∧σ[q]? = some o1):=fun q o1 hq=>by
  rw[List.getElem?_set] at hq
  by_cases e:r=q
  ·subst e;rw[if_pos rfl] at hq;rw[if_pos (hlt hr)] at hq;simp at hq;exact .inl ⟨rfl,hq.symm⟩
  ·rw[if_neg e] at hq;exact .inr ⟨fun x=>e x.symm,hq⟩
 have hne:∀q o1,q≠r→σ[q]? = some o1→∀b,cC K q o1 b→b≠b0:=fun q o1 hq h1 b hb e=>by
  subst e;exact hq (h.inj q r o1 o b h1 hr hb hb0)
 refine C8 (fun hs=>⟨fun b p v hv=>?_,fun q o1 hq=>?_,fun q q' o1 o2 b g1 g2 b1 b2=>?_,h.Dc hs⟩) ?_
 ·by_cases e:b=b0
  ·subst e;exact hst p v hv
  ·rw[hS b p e] at hv;rw[fG (hh b e)];exact h.stab b p v hv
 ·rw[List.length_set]
  rcases ai q o1 hq with⟨rfl,rfl⟩ | ⟨hq',g⟩
  ·exact hO
  ·exact(h.obj q o1 g).mono (hlt g) he (Nat.le_refl _) (htl q hq') fun b hb=>⟨hh b (hne q o1 hq' g b hb),fun p=>hS b p (hne q o1 hq' g b hb)⟩
 ·rcases ai q o1 g1 with⟨rfl,rfl⟩ | ⟨e1,k1⟩<;> rcases ai q' o2 g2 with⟨rfl,rfl⟩ | ⟨e2,k2⟩
  ·rfl
  ·have:=hB b b1
   exact absurd this (hne q' o2 e2 k2 b (b2.ext (hlt k2) he (h.obj q' o2 k2)))
  ·have:=hB b b2
   exact absurd this (hne q o1 e1 k1 b (b1.ext (hlt k1) he (h.obj q o1 k1)))
  ·exact h.inj q q' o1 o2 b k1 k2 (b1.ext (hlt k1) he (h.obj q o1 k1)) (b2.ext (hlt k2) he (h.obj q' o2 k2))
 ·refine⟨he,by simp,by omega,fun b hb hf=>?_,h1,h2,h3,fun b _=>by
   by_cases e:b=b0
   ·subst e;exact h4
   ·rw[hh b e],h5⟩
  have e:b≠b0:=fun e=>hf r o hr (e▸hb0)
  refine⟨hh b e,fun q o1 hq hb'=>?_,fun p=>hS b p e⟩
  rcases ai q o1 hq with⟨rfl,rfl⟩ | ⟨e1,k1⟩
  ·exact e (hB b hb')
  ·exact hf q o1 k1 (hb'.ext (hlt k1) he (h.obj q o1 k1))
end Go.Mu
namespace Go.Mu
open Go
def ai(σ:List aa)(r:Nat):Option aa:=σ[r]?
def ax(σ:List aa)(r:Nat)(o:aa):List aa:=σ.set r o
def eV:AV→AV→Option Bool
 | .int k a,.int k' b=>if k=k' then some (a==b) else none
 | .str a,.str b=>some (a==b)
 | .agg a,.agg b=>match dT a,dT b with
  | some x,some y=>if a.length=b.length then some (x==y) else none
  | _,_=>none
 | _,_=>none
def bw(k:AV):List (AV×AV)→Nat→Option (Option (Nat×AV))
 | [],_=>some none
 | (k',v)::es,i=>match eV k k' with
  | some true=>some (some (i,v))
  | some false=>bw k es (i+1)
  | none=>none
def isInt:TK→Bool
 | .int _=>true
 | _=>false
def uH:TK→Bool
 | .str=>true
 | _=>false
def fU(i:TI):AV→Bool
 | .int _ _=>isInt i.kd
 | .str _=>uH i.kd
 | .agg cs=>i.keyn&&(cs.length==i.sz&&(dT cs).isSome)
 | _=>false
def gy(ok:Bool)(z:AV)(σ:List aa):Option (Option (Nat×AV))→Option (AV×List aa)
 | some (some (_,v))=>some (if ok then .tup [v,.bool true] else v,σ)
 | some none=>some (if ok then .tup [z,.bool false] else z,σ)
 | none=>none
def fL(r:Nat)(es:List (AV×AV))(k v:AV)(σ:List aa):Option (Option (Nat×AV))→Option (AV×List aa)
 | some (some (i,_))=>some (.tup [],ax σ r (.map (es.set i (k,v))))
 | some none=>some (.tup [],ax σ r (.map (es++[(k,v)])))
 | none=>none
def sm(e:TI)(σ:List aa)(t:Tok)(sz:Nat)(xs:List AV)(sz':Nat)(ys:List AV):Option (AV×List aa):=
 if e.kd.agg.isSome∧0<e.sz∧e.bytes≤4096∧e.zero.cells.length=e.sz∧(sz=e.sz∨xs=[])∧(sz'=e.sz∨ys=[])∧xs.length+ys.length≤4294967296 then
  match t with
  | .no=>none
  | .full=>some (.list (.own σ.length) e.sz (xs++ys),σ++[.tail (xs.length+ys.length) e.sz])
  | .own id=>match ai σ id with
   | some (.tail m s)=>if m=xs.length∧s=e.sz then some (.list (.own id) e.sz (xs++ys),ax σ id (.tail (xs.length+ys.length) e.sz)) else none
   | _=>none
 else none
def CV(e:TI)(σ:List aa)(r len:Nat)(sz':Nat)(ys:List AV):Option (AV×List aa):=
 match ai σ r with
 | some (.vec sz xs)=>
  if e.kd.agg.isSome∧0<e.sz∧e.bytes≤4096∧e.zero.cells.length=e.sz∧sz=e.sz∧(sz'=e.sz∨ys=[])∧xs.length=len∧len+ys.length≤4294967296 then
   some (.vec r (len+ys.length),ax σ r (.vec sz (xs++ys)))
  else none
 | _=>none
def zH(e:TI)(σ:List aa)(sz':Nat)(ys:List AV):Option (AV×List aa):=
 if e.kd.agg.isSome∧0<e.sz∧e.bytes≤4096∧e.zero.cells.length=e.sz∧(sz'=e.sz∨ys=[])∧ys.length≤4294967296 then
  some (.vec σ.length ys.length,σ++[.vec e.sz ys])
 else none
def vH(vc:Bool)(e:TI)(σ:List aa)(t:Tok)(sz:Nat)(xs:List AV)(sz':Nat)(ys:List AV):Option (AV×List aa):=
 match vc,t,xs with
 | true,.full,[]=>zH e σ sz' ys
 | _,_,_=>sm e σ t sz xs sz' ys
def tG(off sz:Nat)(ag:Option Bool)(σ:List aa):Option AV→Option (AV×List aa)
 | some x=>(ff off sz x.cells ag).map fun v=>(v,σ)
 | none=>none
def yL(r i off:Nat)(sz:Nat)(xs:List AV)(new:List AV)(σ:List aa):Option AV→Option (AV×List aa)
 | some x=>if x.flat then some (.tup [],ax σ r (.vec sz (xs.set i (je x (putAt off new x.cells))))) else none
 | none=>none
def Ev(σ:List aa):Option aa→Option (AV×List aa)
 | some (.iter (some q) c seen)=>match ai σ q,seen.getLast? with
  | some (.map es),some i=>if c=es.length then(es[i]?).map fun p=>(.tup [p.1,p.2],σ) else none
  | _,_=>none
 | _=>none
def lC:List AV→Option (List Int)
 | []=>some []
 | .int .u8 n::l=>(lC l).map (n::·)
 | _=>none
def cvO(ty:Nat→TI)(fr:Fr)(s d:TypeId)(x:Operand):Option AV:=match (ty s).kd,(ty d).kd,aH fr x with
 | .slice e,.str,some (.list _ sz xs)=>if(ty e).kd= .int .u8∧(sz=1∨xs=[]) then(lC xs).map fun b=> .str (strOfNums b) else none
 | _,_,_=>none
def rB(x:AV):AV:=x.cells.headD x
def hop(ty:Nat→TI)(fr:Fr)(σ:List aa):Op→Option (AV×List aa)
 | .alloc t=>if(ty t).kd.agg.isSome then some (.ptr σ.length 0,σ++[.cells (ty t).zero.cells]) else none
 | .box _ x=>match aH fr x with
  | some v=>if v.flat then some (.ptr σ.length 0,σ++[.cells v.cells]) else none
  | none=>none
 | .load t x=>match aH fr x with
  | some (.ptr r off)=>match ai σ r with
   | some (.cells cs)=>(ff off (ty t).sz cs (ty t).kd.agg).map fun v=>(v,σ)
   | _=>none
  | some (.eptr cs off)=>(ff off (ty t).sz cs (ty t).kd.agg).map fun v=>(v,σ)
  | some (.vptr r m sz i off)=>match ai σ r with
   | some (.vec sz' xs)=>if xs.length=m∧sz'=sz then tG off (ty t).sz (ty t).kd.agg σ (xs[i]?) else none
   | _=>none
  | _=>none
 | .store t x y=>match aH fr x,aH fr y with
  | some (.ptr r off),some v=>match ai σ r with
   | some (.cells cs)=>if(ty t).kd.agg.isSome∧v.flat∧v.cells.length=(ty t).sz∧off+v.cells.length≤cs.length then some (.tup [],ax σ r (.cells (putAt off v.cells cs))) else none
   | _=>none
  | some (.vptr r m sz i off),some v=>match ai σ r with
   | some (.vec sz' xs)=>if xs.length=m∧sz'=sz∧(ty t).kd.agg.isSome∧v.flat∧v.cells.length=(ty t).sz∧off+v.cells.length≤sz then yL r i off sz xs v.cells σ (xs[i]?) else none
   | _=>none
  | _,_=>none
 | .call {callee:= .builtin .append,args,argTypes}=>match bI fr args.toList,argTypes[0]?,argTypes[1]? with
  | some [.list t sz xs,.list _ sz' ys],some t0,some t1=>match (ty t0).kd,(ty t1).kd with
   | .slice e,.slice _=>vH (ty t0).vc (ty e) σ t sz xs sz' ys
   | _,_=>none
  | some [.vec r len,.list _ sz' ys],some t0,some t1=>match (ty t0).kd,(ty t1).kd with
   | .slice e,.slice _=>CV (ty e) σ r len sz' ys
   | _,_=>none
  | _,_,_=>none
 | .call {callee:= .builtin .copy,args,argTypes}=>match bI fr args.toList,argTypes[0]? with
  | some [.arr r off len,.list _ sz xs],some t0=>match (ty t0).kd,ai σ r with
   | .slice e,some (.cells cs)=>if(ty e).kd.agg.isSome∧(ty e).sz=1∧(sz=1∨xs=[])∧0<len∧off+len≤cs.length then some (.int .i64 (min xs.length len:Nat),ax σ r (.cells (putAt off ((xs.take len).map rB) cs))) else none
   | _,_=>none
  | _,_=>none
 | .makeSlice t l c=>match (ty t).kd,aH fr l,aH fr c with
  | .slice e,some (.int _ l),some (.int _ c)=>if l=c∧0≤l∧l≤1048576∧(ty e).kd.agg.isSome∧(ty e).bytes≤4096∧0<(ty e).sz∧(ty e).zero.cells.length=(ty e).sz then
    some (.vec σ.length l.toNat,σ++[.vec (ty e).sz (List.replicate l.toNat (ty e).zero)])
   else none
  | _,_,_=>none
 | .makeMap t none=>match (ty t).kd with
  | .map _ _=>some (.map σ.length,σ++[.map []])
  | _=>none
 | .lookup t m k ok=>match (ty t).kd,aH fr m,aH fr k with
  | .map kt et,some (.map r),some key=>match ai σ r with
   | some (.map es)=>if fU (ty kt) key=true∧(ty et).kd≠ .other∧(ty et).zero.flat=true then gy ok (ty et).zero σ (bw key es 0) else none
   | _=>none
  | _,_,_=>none
 | .mapUpdate t m k x=>match (ty t).kd,aH fr m,aH fr k,aH fr x with
  | .map kt et,some (.map r),some key,some v=>match ai σ r with
   | some (.map es)=>if fU (ty kt) key=true then fL r es key v σ (bw key es 0) else none
   | _=>none
  | _,_,_,_=>none
 | .range t m=>match (ty t).kd,aH fr m with
  | .map _ _,some (.map r)=>match ai σ r with
   | some (.map es)=>some (.ptr σ.length 0,σ++[.iter (some r) es.length []])
   | _=>none
  | .str,some (.str s)=>some (.ptr σ.length 0,σ++[.siter s 0])
  | _,_=>none
 | .convert s d x=>(cvO ty fr s d x).map fun v=>(v,σ)
 | .entry it=>match aH fr it with
  | some (.ptr r 0)=>Ev σ (ai σ r)
  | _=>none
 | _=>none
variable {P:Program}{K:Kr}{n N:Nat}{ty:Nat→TI}
theorem kS(hT:b9 P ty){cs:List AV}{b o off t:Nat}{v:AV}{w:World}{f:Nat→Value}
  (hc:∀j (hj:j<cs.length),w.cell? ⟨b,o+j,none⟩= some (f j)∧(f j).oneCell'=true∧VR K n (cs[j]) (f j))
  (hs:ff off (ty t).sz cs (ty t).kd.agg=some v):∃c,(loadVar t ⟨b,o+off,none⟩).run P w= .ok c w∧VR K n v c:=by
 cases hb:(ty t).kd.agg with
 | none=>rw[hb] at hs;simp[ff] at hs
 | some ag=>
  have hk:(ty t).kd≠ .other:=by intro e;rw[e] at hb;simp[TK.agg] at hb
  rw[hb] at hs
  simp only[loadVar,Sem.run_bind,iW hT hb w,Result.andThen_ok]
  cases ag with
  | true=>
   simp only[ff] at hs
   split at hs
   ·rename_i hl
    simp at hs;subst hs
    have hrun:=run_loadCells (P:=P) w ⟨b,o+off,none⟩ (ty t).sz (fun j=>f (off+j)) (fun j hj=>by
     rw[cZ,Nat.add_assoc];exact(hc (off+j) (by omega)).1)
    refine⟨.agg _,by simp only[Sem.run_bind,aY hT hk w,Result.andThen_ok,if_true,hrun,Sem.run_pure];rfl,?_⟩
    refine VRs.agg ⟨by simp;omega,fun i h1 h2=>?_⟩ (fun c hcm=>?_)
    ·simp at h1 h2⊢
     exact(hc (off+i) (by omega)).2.2
    ·simp at hcm
     obtain⟨j,hj,rfl⟩:=hcm
     exact(hc (off+j) (by omega)).2.1
   ·simp at hs
  | false=>
   simp only[ff] at hs
   obtain⟨hlt,rfl⟩:=List.getElem?_eq_some_iff.1 hs
   obtain⟨h1,_,h3⟩:=hc off hlt
   exact⟨f off,by simp[h1],h3⟩
theorem pJ{σ:List aa}{w:World}(hR:R K σ w){r:Nat}{cs:List AV}(h:ai σ r=some (.cells cs)) :
  ∃f:Nat→Value,∀j (hj:j<cs.length),w.cell? ⟨K.φ r,0+j,none⟩= some (f j)∧(f j).oneCell'=true∧VR K σ.length (cs[j]) (f j):=by
 obtain⟨cc,E,h1,h2,h3,_⟩:=hR.obj r _ h
 refine⟨fun j=>cc.toList.getD j undef,fun j hj=>?_⟩
 have hj':j<cc.toList.length:=by rw[← h2.1];exact hj
 have hd:cc.toList.getD j undef=cc.toList[j]:=by simp[List.getD,List.getElem?_eq_getElem hj']
 refine⟨?_,?_,?_⟩
 ·have hj'':j<cc.size:=by simpa using hj'
  simp[World.cell?,h1,hj'']
 ·show(cc.toList.getD j undef).oneCell'=true
  rw[hd];exact h3 _ (List.getElem_mem hj')
 ·show VR K σ.length (cs[j]) (cc.toList.getD j undef)
  rw[hd];exact h2.2 j hj hj'
theorem wV{σ:List aa}{w:World}(hR:R K σ w){cs:List AV}{off:Nat}{c:Value}(h:VR K σ.length (.eptr cs off) c) :
  ∃b o,c= .pointer (some ⟨b,o+off,none⟩)∧∃f:Nat→Value,∀j (hj:j<cs.length),w.cell? ⟨b,o+j,none⟩= some (f j)∧(f j).oneCell'=true∧VR K σ.length (cs[j]) (f j):=by
 cases h with
 | eptr _ _ b o f hS h1 h=>exact⟨b,o,rfl,f,fun j hj=>⟨hR.stab b _ _ (hS j hj),h1 j hj,h j hj⟩⟩
def Kr.setφ(K:Kr)(r b:Nat):Kr:={K with φ:=fun q=>if q=r then b else K.φ q}
theorem Ext.setφ(K:Kr)(r b:Nat):Ext r K (K.setφ r b):=
 ⟨fun q hq=>by simp[Kr.setφ];omega,fun _ _ _ _ h=>h,fun _ _ _ h=>h⟩
theorem R.yM{σ:List aa}{w:World}(hR:R K σ w){cs:List AV}{cc:Array Value}(E:TypeId)(h:VRs K σ.length cs cc.toList)(h1:∀c∈cc.toList,c.oneCell'=true) :
  R (K.setφ σ.length w.heap.size) (σ++[.cells cs]) (w.alloc (.cells cc E (0,0)))∧Step K σ w (K.setφ σ.length w.heap.size) (σ++[.cells cs]) (w.alloc (.cells cc E (0,0))):=by
 refine hR.new (.cells cs) _ _ (Ext.setφ K _ _) (fun _ _=>rfl) (fun b p v hv=> .inl hv) (fun b hb=>by simpa[cC,Kr.setφ] using hb) ?_
 refine⟨cc,E,by simp only[Kr.setφ,if_true];exact heap_alloc_new w _,h.mono (Ext.setφ K _ _) (by omega),h1,fun p=>?_⟩
 cases hk:K.S w.heap.size p with
 | none=>simp[Kr.setφ,hk]
 | some v=>have:=hR.lt hk;omega
theorem AX(hT:b9 P ty){σ:List aa}{w:World}(hR:R K σ w){t:Nat}(hk:(ty t).kd.agg.isSome=true)(old:Value) :
  ∃c K' w',(Instr.alloc t true old).run P w= .ok c w'∧VR K' (σ.length+1) (.ptr σ.length 0) c∧R K' (σ++[.cells (ty t).zero.cells]) w'∧Step K σ w K' (σ++[.cells (ty t).zero.cells]) w':=by
 have hk':=aT hk
 obtain⟨z,hz,hzr⟩:=fl (K:=K) (n:=σ.length) hT hk'
 obtain⟨g1,g2⟩:=hz.cells (gN hT hk')
 obtain⟨r1,r2⟩:=hR.yM t g1 g2
 refine⟨.pointer (some ⟨w.heap.size,0,none⟩),_,_,?_,?_,r1,r2⟩
 ·simp only[Instr.alloc,Sem.run_bind,hzr w,Result.andThen_ok,newVar,newRow];rfl
 ·have:=VR.ptr (K:=K.setφ σ.length w.heap.size) (n:=σ.length+1) σ.length 0 (by omega)
  simpa[Kr.setφ] using this
theorem GW{σ:List aa}{w:World}(hR:R K σ w){t:Nat}{v:AV}{c:Value}(hv:VR K σ.length v c)(hf:v.flat=true) :
  ∃c' K' w',(Instr.box t c).run P w= .ok c' w'∧VR K' (σ.length+1) (.ptr σ.length 0) c'∧R K' (σ++[.cells v.cells]) w'∧Step K σ w K' (σ++[.cells v.cells]) w':=by
 obtain⟨g1,g2⟩:=hv.cells hf
 obtain⟨r1,r2⟩:=hR.yM t g1 g2
 refine⟨.pointer (some ⟨w.heap.size,0,none⟩),_,_,?_,?_,r1,r2⟩
 ·simp only[Instr.box,Sem.run_bind,newVar,newRow];rfl
 ·have:=VR.ptr (K:=K.setφ σ.length w.heap.size) (n:=σ.length+1) σ.length 0 (by omega)
  simpa[Kr.setφ] using this
theorem Az(hT:b9 P ty){σ:List aa}{w:World}(hR:R K σ w){t r off:Nat}{cs:List AV}(hk:(ty t).kd.agg.isSome=true)(hg:ai σ r=some (.cells cs)){v:AV}{c:Value}(hv:VR K σ.length v c)(hf:v.flat=true)
  (hl:v.cells.length=(ty t).sz) (hlen:off+v.cells.length≤cs.length) :
  ∃w',(Instr.storeAt t (.pointer (some ⟨K.φ r,off,none⟩)) c).run P w= .ok () w'∧R K (ax σ r (.cells (putAt off v.cells cs))) w'∧Step K σ w K (ax σ r (.cells (putAt off v.cells cs))) w':=by
 obtain⟨cc,E,h1,h2,h3,h4⟩:=hR.obj r _ hg
 obtain⟨g1,g2⟩:=hv.cells hf
 have hsz:c.cells.size=(ty t).sz:=by have:=g1.1;simp at this;omega
 have hcl:cs.length=cc.size:=by have:=h2.1;simpa using this
 have hst:=run_storeCells_at P (K.φ r) off E c.cells.toList 0 cc w h1 (by simp;omega) (fun x hx=>g2 x hx)
 simp only[Nat.add_zero] at hst
 refine⟨w.setRow (K.φ r) (cc.toList.take off++c.cells.toList++cc.toList.drop (off+c.cells.toList.length)).toArray,?_,?_⟩
 ·simp only[Instr.storeAt,Instr.sureAddr,storeVar,Sem.run_bind,Sem.run_pure,Result.andThen_ok,aY hT (aT hk),hsz,ne_eq,not_true_eq_false,if_false]
  exact hst
 ·refine hR.fP hg (K.φ r) rfl K (.refl _ _) (fun _ _=>rfl) (fun b hb=>setRow_other w _ _ _ hb) (setRow_size _ _ _) (fun _ _ _=>rfl) (fun p v' hv'=>by rw[h4 p] at hv';cases hv') (fun b hb=>hb) ?_ rfl rfl rfl (by rw[setRow_heap w _ cc _ E (0,0) h1,h1];rfl)
  refine⟨_,E,setRow_heap w _ cc _ E (0,0) h1,?_,?_,h4⟩
  ·simp only[putAt]
   have hl':c.cells.toList.length=v.cells.length:=g1.1.symm
   rw[hl']
   exact((h2.take off).append g1).append (h2.drop _)
  ·intro x hx
   simp only[List.mem_append] at hx
   rcases hx with(hx | hx) | hx
   ·exact h3 x (List.mem_of_mem_take hx)
   ·exact g2 x hx
   ·exact h3 x (List.mem_of_mem_drop hx)
end Go.Mu
namespace Go.Mu
open Go
variable {P:Program}{K:Kr}{n N:Nat}{ty:Nat→TI}
theorem gr(sz:Nat):∀(xs:List AV) (i j:Nat),(∀i (h:i<xs.length),(xs[i]).cells.length=sz)→j<sz→(xs.flatMap AV.cells)[i*sz+j]? = (xs[i]?).bind fun x=>x.cells[j]?
 | [],i,j,_,_=>by simp
 | x::xs,i,j,h,hj=>by
  have h0:x.cells.length=sz:=h 0 (by simp)
  have hr:∀i (h:i<xs.length),(xs[i]).cells.length=sz:=fun i hi=>by have:=h (i+1) (by simpa using hi);simpa using this
  simp only[List.flatMap_cons]
  cases i with
  | zero=>rw[List.getElem?_append_left (by omega)];simp
  | succ i=>
   have e:(i+1)*sz+j=sz+(i*sz+j):=by rw[Nat.add_mul];omega
   rw[e,List.getElem?_append_right (by omega),h0,Nat.add_sub_cancel_left,gr sz xs i j hr hj]
   simp
theorem bB(sz:Nat):∀(xs:List AV),(∀i (h:i<xs.length),(xs[i]).cells.length=sz)→(xs.flatMap AV.cells).length=xs.length*sz
 | [],_=>by simp
 | x::xs,h=>by
  have h0:x.cells.length=sz:=h 0 (by simp)
  have hr:∀i (h:i<xs.length),(xs[i]).cells.length=sz:=fun i hi=>by have:=h (i+1) (by simpa using hi);simpa using this
  simp only[List.flatMap_cons,List.length_append,bB sz xs hr,h0,List.length_cons,Nat.add_mul]
  omega
theorem VR.ll{t:Tok}{sz:Nat}{xs:List AV}{c:Value}(h:VR K n (.list t sz xs) c) :
  ∃(a:Option Addr) (cap:Nat) (cc:List Value),c= .slice a xs.length cap∧xs.length≤cap∧rN K n t xs.length a cap∧(∀i (h:i<xs.length),(xs[i]).cells.length=sz)∧
   VRs K n (xs.flatMap AV.cells) cc∧(∀x∈cc,x.oneCell'=true)∧(xs≠[]→∃b o,a=some ⟨b,o,none⟩∧∀p (hp:p<cc.length),K.S b (o+p)=some cc[p]):=by
 cases h with
 | list _ _ _ a cap f hl ht ha hs h1 h=>
  have hlen:=bB sz xs hs
  rcases Nat.eq_zero_or_pos sz with hz | hz
  ·subst hz
   simp at hlen
   have hnil:xs.flatMap AV.cells=[]:=by
    apply List.eq_nil_of_length_eq_zero
    rw[bB 0 xs hs];simp
   refine⟨a,cap,[],rfl,hl,ht,hs,by rw[hnil];exact .nil,by simp,fun hx=>?_⟩
   obtain⟨b,o,h2,_⟩:=ha hx
   exact⟨b,o,h2,fun p hp=>by simp at hp⟩
  ·have hdm:∀p,p<xs.length*sz→p/sz<xs.length∧p%sz<sz∧p/sz*sz+p%sz=p:=fun p hp=>
    ⟨(Nat.div_lt_iff_lt_mul hz).2 hp,Nat.mod_lt _ hz,by rw[Nat.mul_comm];exact Nat.div_add_mod p sz⟩
   refine⟨a,cap,(List.range (xs.length*sz)).map fun p=>f (p/sz) (p%sz),rfl,hl,ht,hs,⟨by simp[hlen],fun p g1 g2=>?_⟩,fun x hx=>?_,fun hx=>?_⟩
   ·simp at g2
    obtain⟨e1,e2,e3⟩:=hdm p g2
    have hg:=gr sz xs (p/sz) (p%sz) hs e2
    rw[e3,List.getElem?_eq_getElem g1,List.getElem?_eq_getElem e1] at hg
    have e4:p%sz<(xs[p/sz]).cells.length:=by rw[hs _ e1];exact e2
    simp only[Option.bind_some,List.getElem?_eq_getElem e4,Option.some.injEq] at hg
    rw[hg]
    simp
    exact h _ _ e1 e4
   ·simp at hx
    obtain⟨p,hp,rfl⟩:=hx
    obtain⟨e1,e2,_⟩:=hdm p hp
    exact h1 _ _ e1 e2
   ·obtain⟨b,o,h2,h3⟩:=ha hx
    refine⟨b,o,h2,fun p hp=>?_⟩
    simp at hp⊢
    obtain⟨e1,e2,e3⟩:=hdm p hp
    have:=h3 _ _ e1 e2
    rw[e3] at this
    exact this
theorem VR.nm{t:Tok}{sz:Nat}{xs:List AV}{a:Option Addr}{cap:Nat}{cc:List Value}(hl:xs.length≤cap)(ht:rN K n t xs.length a cap)(hs:∀i (h:i<xs.length),(xs[i]).cells.length=sz)
  (hv:VRs K n (xs.flatMap AV.cells) cc) (h1:∀x∈cc,x.oneCell'=true) (ha:xs≠[]→∃b o,a=some ⟨b,o,none⟩∧∀p (hp:p<cc.length),K.S b (o+p)=some cc[p]):VR K n (.list t sz xs) (.slice a xs.length cap):=by
 have hlen:=bB sz xs hs
 have hcl:cc.length=xs.length*sz:=by rw[← hv.1,hlen]
 have hij:∀i j,i<xs.length→j<sz→i*sz+j<cc.length:=fun i j hi hj=>by
  have h2:(i+1)*sz≤xs.length*sz:=Nat.mul_le_mul_right sz hi
  rw[Nat.add_mul] at h2;omega
 refine .list t sz xs a cap (fun i j=>cc.getD (i*sz+j) undef) hl ht (fun hx=>?_) hs (fun i j hi hj=>?_) (fun i j hi hj=>?_)
 ·obtain⟨b,o,h2,h3⟩:=ha hx
  refine⟨b,o,h2,fun i j hi hj=>?_⟩
  rw[h3 _ (hij i j hi hj)]
  simp[List.getD,List.getElem?_eq_getElem (hij i j hi hj)]
 ·apply h1
  show cc.getD (i*sz+j) undef∈cc
  simp[List.getD,List.getElem?_eq_getElem (hij i j hi hj)]
 ·have hj':j<sz:=by rw[← hs i hi];exact hj
  have hlt:=hij i j hi hj'
  have hg:=gr sz xs i j hs hj'
  have hlt':i*sz+j<(xs.flatMap AV.cells).length:=by rw[hv.1];exact hlt
  rw[List.getElem?_eq_getElem hlt',List.getElem?_eq_getElem hi] at hg
  simp only[Option.bind_some,List.getElem?_eq_getElem hj,Option.some.injEq] at hg
  have:=hv.2 _ hlt' hlt
  rw[hg] at this
  show VR K n _ (cc.getD (i*sz+j) undef)
  simp only[List.getD,List.getElem?_eq_getElem hlt,Option.getD_some]
  exact this
theorem cQ{σ:List aa}{w:World}(hR:R K σ w){a:Option Addr}{len cap sz k:Nat}{cc:List Value}(hk:cc.length=k*sz)
  (ha:k≠0→∃b o,a=some ⟨b,o,none⟩∧∀p (hp:p<cc.length),K.S b (o+p)=some cc[p]):(Builtin.firstCells sz k (.slice a len cap)).run P w= .ok cc.toArray w:=by
 by_cases h0:k=0
 ·subst h0
  simp at hk;subst hk
  cases a with
  | none=>rfl
  | some a=>simp[Builtin.firstCells,loadCells,loadCellsFrom]
 ·obtain⟨b,o,rfl,h⟩:=ha h0
  simp only[Builtin.firstCells]
  rw[← hk]
  refine run_loadCells_list w ⟨b,o,none⟩ cc fun j v hv=>?_
  obtain⟨hj,rfl⟩:=List.getElem?_eq_some_iff.1 hv
  rw[cZ]
  exact hR.stab b _ _ (h j hj)
end Go.Mu
