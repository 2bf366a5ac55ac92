/- The builtin copy into an array. -/
import Derived.Test.YtgbdndlmdklefaaGreatHK02
set_option linter.unusedSimpArgs false
set_option linter.unusedVariables false
set_option maxHeartbeats 40000000
namespace Go.Mu
open Go
variable {P:Program}{ty:Nat→TI}{K:Kr}
theorem G1{l:List AV}{d:AV}(h:l.length=1):l.headD d=l[0]'(by omega):=by
 match l,h with
 | [a],_=>rfl
theorem Ec(hT:b9 P ty){σ:List aa}{w:World}(hR:R K σ w){ats:Array TypeId}{t0 e r off len sz:Nat}{t:Tok}{xs cs:List AV}(h0:ats[0]? = some t0)(hk0:(ty t0).kd= .slice e)(hk:(ty e).kd.agg.isSome=true)(h1:(ty e).sz=1)(hs:sz=1∨xs=[])(hlen:0<len)
  (hg:ai σ r=some (.cells cs)) (hl:off+len≤cs.length) {c1 c2:Value} (g1:VR K σ.length (.arr r off len) c1) (g2:VR K σ.length (.list t sz xs) c2) (type:TypeId) :
  ∃w',(Builtin.copy_ ats type #[c1,c2]).run P w= .ok (.int .i64 (min xs.length len:Nat)) w'∧R K (ax σ r (.cells (putAt off ((xs.take len).map rB) cs))) w'∧Step K σ w K (ax σ r (.cells (putAt off ((xs.take len).map rB) cs))) w':=by
 obtain⟨cc,E,o1,o2,o3,o4⟩:=hR.obj r _ hg
 have hcl:cs.length=cc.size:=by have:=o2.1;simpa using this
 have hk':(ty t0).kd≠ .other:=by rw[hk0];simp
 obtain⟨d,hd,hu⟩:=aL hT hk'
 rw[hk0] at hd
 simp only[bV] at hd;subst hd
 cases g1 with
 | arr _ _ _ a cap hr hc ha=>
  have ha':a=some ⟨K.φ r,off,none⟩:=by rcases ha with h | h;omega;exact h
  subst ha'
  cases g2 with
  | list _ _ _ a2 cap2 f q1 q2 q3 q4 q5 q6=>
   have hx1:∀i (hi:i<xs.length),(xs[i]).cells.length=1:=fun i hi=>by
    rw[q4 i hi]
    rcases hs with h | h
    ·exact h
    ·subst h;simp at hi
   have hoA:∀i (hi:i<xs.length),rB xs[i]=(xs[i]).cells[0]'(by rw[hx1 i hi];omega):=fun i hi=>by
    exact G1 (hx1 i hi)
   obtain⟨n,hn⟩:∃n,min xs.length len=n:=⟨_,rfl⟩
   obtain⟨cc2,hcc⟩:∃cc2,(List.range n).map (fun i=>f i 0)=cc2:=⟨_,rfl⟩
   have hc2:cc2.length=n:=by rw[← hcc];simp
   have hV:VRs K σ.length ((xs.take len).map rB) cc2:=⟨by simp[hc2];omega,fun i a b=>by
    have hi:i<xs.length:=by simp at a;omega
    subst hcc
    simp only[List.getElem_map,List.getElem_take,List.getElem_range]
    rw[hoA i hi]
    exact q6 i 0 hi (by rw[hx1 i hi];omega)⟩
   have hcell:∀x∈cc2,x.oneCell'=true:=fun x hx=>by
    subst hcc
    obtain⟨i,hi,rfl⟩:=List.mem_map.1 hx
    simp only[List.mem_range] at hi
    have hix:i<xs.length:=by omega
    exact q5 i 0 hix (by rw[← q4 i hix,hx1 i hix];omega)
   have hfirst:=cQ (P:=P) hR (a:=a2) (len:=xs.length) (cap:=cap2) (sz:=1) (k:=n) (cc:=cc2) (by omega) (fun hne=>by
    obtain⟨b,o,ha2,hS⟩:=q3 (fun e=>by subst e;simp at hn;omega)
    refine⟨b,o,ha2,fun p hp=>?_⟩
    have hpx:p<xs.length:=by omega
    have hz:sz=1:=by rw[← q4 p hpx,hx1 p hpx]
    subst hz
    have:=hS p 0 hpx (by omega)
    subst hcc
    simpa using this)
   have hst:=run_storeCells_at P (K.φ r) off E cc2 0 cc w o1 (by simp;omega) hcell
   simp only[Nat.add_zero] at hst
   refine⟨w.setRow (K.φ r) (cc.toList.take off++cc2++cc.toList.drop (off+cc2.length)).toArray,?_,?_⟩
   ·simp only[Builtin.copy_,h0,List.getElem?_toArray,List.getElem?_cons_zero,List.getElem?_cons_succ,Sem.run_bind,hu w,Result.andThen_ok,Builtin.lenOf,Sem.run_pure,aY hT (aT hk),h1]
    have e:Nat.min xs.length len=n:=hn
    rw[e,hfirst]
    simp only[Result.andThen_ok,hst,Sem.run_bind,Sem.run_pure]
    rw[hn];rfl
   ·refine hR.fP hg (K.φ r) rfl K (.refl _ _) (fun _ _=>rfl) (fun b hb=>setRow_other w _ _ _ hb) (setRow_size _ _ _) (fun _ _ _=>rfl) (fun p v' hv'=>by rw[o4 p] at hv';cases hv') (fun b hb=>hb) ?_ rfl rfl rfl (by rw[setRow_heap w _ cc _ E (0,0) o1,o1];rfl)
    refine⟨_,E,setRow_heap w _ cc _ E (0,0) o1,?_,?_,o4⟩
    ·simp only[putAt]
     have hl':cc2.length=((xs.take len).map rB).length:=hV.1.symm
     rw[hl']
     exact((o2.take off).append hV).append (o2.drop _)
    ·intro x hx
     simp only[List.mem_append] at hx
     rcases hx with(hx | hx) | hx
     ·exact o3 x (List.mem_of_mem_take hx)
     ·exact hcell x hx
     ·exact o3 x (List.mem_of_mem_drop hx)
end Go.Mu
namespace Go.Mu
open Go
variable {P:Program}{K:Kr}{n N:Nat}{ty:Nat→TI}
theorem zt(sz:Nat):∀(ps:List (Nat×AV)) (ps':List (Nat×Value)) (k:Nat) (cc:Array Value) (xs:List AV),uM sz k ps=some xs→ps.map (·.1)=ps'.map (·.1)→VRs K n (ps.map (·.2)) (ps'.map (·.2))→
  cc.size=(k+ps.length)*sz→∃cc' rs,Instr.fill (fun i=>some (i*sz,sz)) cc ps'=some cc'∧cc'.toList=cc.toList.take (k*sz)++rs∧VRs K n (xs.flatMap AV.cells) rs∧(∀x∈rs,x.oneCell'=true)∧
   (∀i (h:i<xs.length),(xs[i]).cells.length=sz)∧xs.length=ps.length
 | [],ps',k,cc,xs,h,h1,h2,h3=>by
  simp[uM] at h;subst h
  cases ps' with
  | cons=>simp at h1
  | nil=>exact⟨cc,[],rfl,by rw[List.take_of_length_le (by simp[h3])];simp,.nil,by simp,by simp,rfl⟩
 | (i,v)::ps,ps',k,cc,xs,h,h1,h2,h3=>by
  cases ps' with
  | nil=>simp at h1
  | cons q qs=>
   obtain⟨i',c⟩:=q
   simp only[List.map_cons,List.cons.injEq] at h1 h2
   obtain⟨rfl,h1⟩:=h1
   simp only[uM] at h
   split at h
   ·rename_i hc
    obtain⟨rfl,hf,hl⟩:=hc
    simp only[Option.map_eq_some_iff] at h
    obtain⟨ys,h4,rfl⟩:=h
    obtain⟨g1,g2⟩:=h2.head.cells hf
    have g3:c.cells.size=sz:=by have:=g1.1;simp at this;omega
    simp only[List.length_cons] at h3
    have hmul:(i+(ps.length+1))*sz=i*sz+sz+ps.length*sz:=by rw[Nat.add_mul,Nat.add_mul];omega
    have hput:(c.cells.zipIdx.foldl (fun(cs:Array Value) (p:Value×Nat)=>cs.setIfInBounds (i*sz+p.2) p.1) cc).toList=cc.toList.take (i*sz)++c.cells.toList++cc.toList.drop (i*sz+sz):=by
     rw[← Array.foldl_toList,Array.toList_zipIdx]
     rw[qd c.cells.toList 0 (i*sz) cc (by simp;omega)]
     simp[g3]
    generalize hA:(c.cells.zipIdx.foldl (fun(cs:Array Value) (p:Value×Nat)=>cs.setIfInBounds (i*sz+p.2) p.1) cc)=A at hput
    have hAs:A.size=(i+1+ps.length)*sz:=by
     have:A.toList.length=A.size:=by simp
     rw[← this,hput]
     simp[g3]
     rw[show(i+1+ps.length)*sz=i*sz+sz+ps.length*sz by rw[Nat.add_mul,Nat.add_mul];omega]
     omega
    obtain⟨cc',rs,k1,k2,k3,k4,k5,k6⟩:=zt sz ps qs (i+1) A ys h4 h1 h2.tail hAs
    refine⟨cc',c.cells.toList++rs,?_,?_,?_,?_,?_,by simp[k6]⟩
    ·simp only[Instr.fill]
     rw[if_neg (by simp[g3];omega),hA]
     exact k1
    ·rw[k2,hput]
     have e:(i+1)*sz=i*sz+sz:=by rw[Nat.add_mul];omega
     rw[e]
     have hlt:(cc.toList.take (i*sz)).length=i*sz:=by simp;omega
     rw[List.append_assoc,List.take_append,hlt,List.take_of_length_le (by omega),Nat.add_sub_cancel_left,List.take_append]
     simp[g3]
     exact List.take_of_length_le (by simp[g3])
    ·simp only[List.flatMap_cons];exact g1.append k3
    ·intro x hx
     simp only[List.mem_append] at hx
     exact hx.elim (g2 x) (k4 x)
    ·intro j hj
     cases j with
     | zero=>exact hl
     | succ j=>have:=k5 j (by simpa using hj);simpa using this
   ·simp at h
theorem lk{z:Nat}{x:AV}:x.cells.length=(dF z x).cells.length:=by
 unfold dF;split
 ·split<;> rfl
 ·rfl
theorem VR.dF{z:Nat}{x:AV}{c:Value}(h:VR K n x c):VR K n (dF z x) c:=by
 unfold Mu.dF;split
 ·rename_i t sz xs
  split
  ·rename_i hz
   cases h with
   | list _ _ _ a cap f hl ht ha hs h1 h=>
    rcases hz with rfl | rfl
    ·exact .list .no sz xs a cap f hl trivial ha hs h1 h
    ·exact .list .no z [] a cap f hl trivial (fun h=>absurd rfl h) (fun i hi=>by simp at hi) (fun i j hi=>by simp at hi) (fun i j hi=>by simp at hi)
  ·exact h
 ·exact h
theorem AF{z:Nat}{x:AV}{j:Nat}{c:Value}(hj:j<x.cells.length)(hj':j<(dF z x).cells.length)(h:VR K n (x.cells[j]) c):VR K n ((dF z x).cells[j]) c:=by
 cases x with
 | list t sz xs=>
  have h0:j=0:=by simp[AV.cells] at hj;exact hj
  subst h0
  have h':VR K n (.list t sz xs) c:=h
  have h2:=h'.dF (z:=z)
  have e:(Mu.dF z (.list t sz xs)).cells[0]'hj'=Mu.dF z (.list t sz xs):=by
   simp only[Mu.dF];split<;> rfl
  rw[e];exact h2
 | _=>exact h
theorem VR.pd{o:Option Nat}{t:Tok}{sz:Nat}{xs:List AV}{a:Option Addr}{cap:Nat}(h:VR K n (.list t sz xs) (.slice a xs.length cap)):VR K n (.list t sz (pd o xs)) (.slice a xs.length cap):=by
 cases o with
 | none=>exact h
 | some z=>
  cases h with
  | list _ _ _ _ _ f hl ht ha hs h1 h=>
   have e:xs.length=(xs.map (Mu.dF z)).length:=by simp
   show VR K n (.list t sz (xs.map (Mu.dF z))) _
   rw[show(Value.slice a xs.length cap)= .slice a (xs.map (Mu.dF z)).length cap by rw[← e]]
   refine .list t sz _ a cap f (by omega) (by rw[← e];exact ht) (fun hne=>?_) (fun i hi=>?_) (fun i j hi hj=>h1 i j (by omega) hj) (fun i j hi hj=>?_)
   ·obtain⟨b,o,h2,h3⟩:=ha (by intro e;subst e;simp at hne)
    exact⟨b,o,h2,fun i j hi hj=>h3 i j (by omega) hj⟩
   ·simp only[List.getElem_map];rw[← lk];exact hs i (by omega)
   ·have hi':i<xs.length:=by omega
    have e2:(xs.map (Mu.dF z))[i]=Mu.dF z xs[i]:=by simp
    have hj':j<(xs[i]).cells.length:=by rw[lk (z:=z),← e2];exact hj
    have:=AF (z:=z) hj' (by rw[← lk];exact hj') (h i j hi' hj')
    simpa only[e2] using this
def Kr.jN(K:Kr)(b:Nat)(cc:List Value):Kr:={K with S:=fun b' p=>if b'=b then(if h:p<cc.length then some cc[p] else none) else K.S b' p}
theorem I5(hT:b9 P ty){σ:List aa}{w:World}(hR:R K σ w){fr:Fr}{a:Act}(hF:FR K σ.length N fr a.tmps){o:Oper}{v:AV}(h:cU ty fr o.op=some v) :
  ∃c K' w',(execOp a.eval o).run P w= .ok (.value c) w'∧VR K' σ.length v c∧R K' σ w'∧Step K σ w K' σ w':=by
 obtain⟨dst,op,type,pos,after,guard⟩:=o
 simp only at h
 cases op with
 | buildSlice t len parts=>
  simp only[cU] at h
  split at h
  ·rename_i ps e h1 h2
   split at h
   ·rename_i hc
    obtain⟨ha,hlen,hmax,hpos,hz⟩:=hc
    simp only[Option.map_eq_some_iff] at h
    obtain⟨xs,h3,rfl⟩:=h
    have hk:(ty t).kd≠ .other:=by rw[h2];simp
    obtain⟨d,hd,hu⟩:=aL hT hk
    rw[h2] at hd
    simp only[bV] at hd;subst hd
    obtain⟨z,hzv,hzr⟩:=fl (K:=K) (n:=σ.length) hT (aT ha)
    obtain⟨b1,b2⟩:=mJ hF h1
    have c1:ps.map (·.1)=((parts.map fun(i,x)=>(i,a.eval x)).toList).map (·.1):=by rw[b1];simp[Function.comp_def]
    have c2:VRs K σ.length (ps.map (·.2)) (((parts.map fun(i,x)=>(i,a.eval x)).toList).map (·.2)):=by simpa[Function.comp_def] using b2
    have hrun:∀A:Array Value,A.size=len*(ty e).sz→∃cc rs,Instr.fill (fun i=>some (i*(ty e).sz,(ty e).sz)) A (parts.map fun(i,x)=>(i,a.eval x)).toList=some cc∧cc.toList=rs∧
      VRs K σ.length (xs.flatMap AV.cells) rs∧(∀x∈rs,x.oneCell'=true)∧(∀i (h:i<xs.length),(xs[i]).cells.length=(ty e).sz)∧xs.length=ps.length:=fun A hA=>by
     obtain⟨cc,rs,k1,k2,k3⟩:=zt (ty e).sz ps _ 0 A xs h3 c1 c2 (by rw[hA,hlen];simp)
     exact⟨cc,rs,k1,by simpa using k2,k3⟩
    obtain⟨A,hA,hAr⟩:∃A:Array Value,A.size=len*(ty e).sz∧
      ((len*(ty e).sz=0∧A=(Array.range (len*(ty e).sz)).map ((#[]:Array Value)[· % (#[]:Array Value).size]!))∨(¬len*(ty e).sz=0∧A=(Array.range (len*(ty e).sz)).map (z.cells[· % z.cells.size]!))):=by
     by_cases h0:len*(ty e).sz=0
     ·exact⟨_,by simp,.inl ⟨h0,rfl⟩⟩
     ·exact⟨_,by simp,.inr ⟨h0,rfl⟩⟩
    obtain⟨cc,rs,k1,rfl,k3,k4,k5,k6⟩:=hrun A hA
    have hcc:cc.toList.length=xs.length*(ty e).sz:=by rw[← k3.1,bB _ xs k5]
    have hxl:xs.length=len:=by omega
    have hext:Ext σ.length K (K.jN w.heap.size cc.toList):=⟨fun _ _=>rfl,fun _ _ _ _ h=>h,fun b p v hv=>by
     have:=hR.lt hv
     simp only[Kr.jN];rw[if_neg (by omega)];exact hv⟩
    obtain⟨r1,r2⟩:=hR.KO (.cells cc e (0,0)) (K.jN w.heap.size cc.toList) hext rfl (fun b p v hv=>by
     simp only[Kr.jN] at hv
     split at hv
     ·rename_i hb
      split at hv
      ·rename_i hp
       refine .inr ⟨hb,?_⟩
       subst hb
       simp only[World.cell?,heap_alloc_new]
       have hp':p<cc.size:=by simpa using hp
       simp only[Option.isSome_none,Bool.false_eq_true,if_false]
       rw[← hv];simp[hp']
      ·cases hv
     ·exact .inl hv)
    refine⟨.slice (some ⟨w.heap.size,0,none⟩) len len,_,_,?_,?_,r1,r2⟩
    ·have hno:¬len*(ty e).sz>2^24:=by omega
     rcases hAr with⟨h0,rfl⟩ | ⟨h0,rfl⟩
     ·simp only[execOp,Instr.buildSlice,Sem.run_bind,hu w,aY hT (aT ha),Result.andThen_ok,if_neg hno,if_pos h0,Sem.run_pure,k1,newRow]
      rfl
     ·simp only[execOp,Instr.buildSlice,Sem.run_bind,hu w,aY hT (aT ha),Result.andThen_ok,if_neg hno,if_neg h0,hzr w,Sem.run_pure,k1,newRow]
      rfl
    ·rw[← hxl]
     refine VR.pd ?_
     refine VR.nm (Nat.le_refl _) rfl k5 (k3.mono hext (Nat.le_refl _)) k4 (fun _=>⟨w.heap.size,0,rfl,fun p hp=>?_⟩)
     simp only[Kr.jN,Nat.zero_add,if_true]
     rw[dif_pos hp]
   ·simp at h
  ·simp at h
 | _=>simp[cU] at h
theorem wK(newLen:Nat):∀(rounds c:Nat),Builtin.growBy newLen rounds c≤max c (2*newLen+200)
 | 0,c=>by simp only[Builtin.growBy];omega
 | r+1,c=>by
  simp only[Builtin.growBy]
  split
  ·omega
  ·have:=wK newLen r (c+(c+768)/4);omega
theorem tZ(need cap:Nat)(h:cap<need):Builtin.nextslicecap need cap≤2*need+200:=by
 unfold Builtin.nextslicecap
 split
 ·omega
 ·split
  ·omega
  ·have:=wK need 4 cap;omega
def Kr.cK(K:Kr)(r:Nat)(f:Nat→Option (Option Addr×Nat)):Kr:={K with tl:=fun q=>if q=r then f else K.tl q}
theorem nh(z:Array Value)(k:Nat):(Builtin.zeroCells z k).size=k*z.size:=by simp[Builtin.zeroCells]
theorem vZ{σ σ':List aa}{w:World}(hR:R K σ w)(r:Nat)(sz m cap:Nat)(E:TypeId)(xs ys:List AV)(cc cc2:List Value)(rest:List Value)(f:Nat→Option (Option Addr×Nat))
  (hs1:∀i (h:i<xs.length),(xs[i]).cells.length=sz) (hs2:∀i (h:i<ys.length),(ys[i]).cells.length=sz)
  (hv1:VRs K σ.length (xs.flatMap AV.cells) cc) (hv2:VRs K σ.length (ys.flatMap AV.cells) cc2) (h1:∀x∈cc,x.oneCell'=true) (h2:∀x∈cc2,x.oneCell'=true)
  (hm:m=xs.length+ys.length) (hcap:m≤cap) (hrest:rest.length=(cap-m)*sz)
  (hlen:σ.length≤σ'.length) (hr:r<σ'.length) (hro:σ'[r]? = some (.tail m sz)) (hrs:∀q o',q≠r→σ'[q]? = some o'→σ[q]? = some o')
  (hf:f m=some (some ⟨w.heap.size,0,none⟩,cap)) (hf':∀k,m<k→f k=none) (hold:r<σ.length→∀k x,K.tl r k=some x→f k=some x) :
  ∃K',VR K' σ'.length (.list (.own r) sz (xs++ys)) (.slice (some ⟨w.heap.size,0,none⟩) m cap)∧R K' σ' (w.alloc (.cells (cc++cc2++rest).toArray E (0,0)))∧Step K σ w K' σ' (w.alloc (.cells (cc++cc2++rest).toArray E (0,0))):=by
 have hl1:cc.length=xs.length*sz:=by rw[← hv1.1,bB _ xs hs1]
 have hl2:cc2.length=ys.length*sz:=by rw[← hv2.1,bB _ ys hs2]
 have hmz:m*sz=cc.length+cc2.length:=by rw[hm,Nat.add_mul];omega
 have htot:(cc++cc2++rest).length=cap*sz:=by
  simp only[List.length_append,hrest]
  have:cap*sz=m*sz+(cap-m)*sz:=by rw[← Nat.add_mul];congr 1;omega
  omega
 have hext:Ext σ.length K ((K.jN w.heap.size (cc++cc2)).cK r f):=⟨fun _ _=>rfl,fun q hq k x hx=>by
  simp only[Kr.cK,Kr.jN]
  by_cases e:q=r
  ·subst e;rw[if_pos rfl];exact hold hq k x hx
  ·rw[if_neg e];exact hx,fun b p v hv=>by
  have:=hR.lt hv
  simp only[Kr.jN,Kr.cK];rw[if_neg (by omega)];exact hv⟩
 obtain⟨r1,r2⟩:=hR.newAt (σ':=σ') r (.tail m sz) (.cells (cc++cc2++rest).toArray E (0,0)) ((K.jN w.heap.size (cc++cc2)).cK r f) hext hlen hr hro hrs
  (fun q hq=>by simp only[Kr.cK,Kr.jN];rw[if_neg hq])
  (fun b p v hv=>by
   simp only[Kr.jN,Kr.cK] at hv
   split at hv
   ·rename_i hb
    split at hv
    ·rename_i hp
     refine .inr ⟨hb,?_⟩
     subst hb
     simp only[World.cell?,heap_alloc_new,Option.isSome_none,Bool.false_eq_true,if_false]
     rw[← hv]
     have hp':p<(cc++cc2++rest).length:=by rw[List.length_append];omega
     simp only[List.getElem?_toArray]
     rw[List.getElem?_append_left hp,List.getElem?_eq_getElem hp]
    ·cases hv
   ·exact .inl hv)
  (fun b hb=>by
   obtain⟨a,cap',g1,g2,rfl⟩:=hb
   simp only[Kr.cK,if_true] at g1
   rw[hf] at g1;simp at g1
   rw[← g1.1])
  (by
   refine⟨some ⟨w.heap.size,0,none⟩,cap,by simp only[Kr.cK,if_true];exact hf,hcap,fun k hk=>by simp only[Kr.cK,if_true];exact hf' k hk,fun _=>⟨w.heap.size,0,_,E,rfl,heap_alloc_new w _,?_,fun p hp=>?_⟩⟩
   ·simp only[Nat.zero_add,List.size_toArray,htot];exact Nat.le_refl _
   ·simp only[Kr.cK,Kr.jN,if_true]
    rw[dif_neg]
    rw[List.length_append];omega)
 refine⟨_,?_,r1,r2⟩
 have hlen2:m=(xs++ys).length:=by rw[List.length_append];exact hm
 rw[hlen2]
 refine VR.nm (by omega) ⟨hr,?_⟩ ?_ (cc:=cc++cc2) ?_ ?_ (fun _=>⟨w.heap.size,0,rfl,fun p hp=>?_⟩)
 ·simp only[Kr.cK,if_true];rw[← hlen2];exact hf
 ·intro i hi
  by_cases e:i<xs.length
  ·rw[List.getElem_append_left e];exact hs1 i e
  ·rw[List.getElem_append_right (by omega)];exact hs2 _ _
 ·rw[List.flatMap_append]
  exact(hv1.append hv2).mono hext hlen
 ·intro x hx
  simp only[List.mem_append] at hx
  exact hx.elim (h1 x) (h2 x)
 ·simp only[Kr.cK,Kr.jN,if_true,Nat.zero_add]
  rw[dif_pos hp]
theorem aN{σ:List aa}{r:Nat}{o:aa}(h:ai σ r=some o):r<σ.length:=(List.getElem?_eq_some_iff.1 h).1
theorem iE{σ:List aa}{r:Nat}{o:aa}(h:r<σ.length):(ax σ r o)[r]? = some o:=by simp[ax,h]
theorem jW{σ:List aa}{r q:Nat}{o o':aa}(hq:q≠r)(h:(ax σ r o)[q]? = some o'):σ[q]? = some o':=by
 simpa[ax,List.getElem?_set,Ne.symm hq] using h
theorem AK{σ:List aa}{w:World}(hR:R K σ w)(r:Nat)(sz m cap b o:Nat)(E:TypeId)(xs ys:List AV)(cc cc2:List Value)(cells:Array Value)
  (hs1:∀i (h:i<xs.length),(xs[i]).cells.length=sz) (hs2:∀i (h:i<ys.length),(ys[i]).cells.length=sz)
  (hv1:VRs K σ.length (xs.flatMap AV.cells) cc) (hv2:VRs K σ.length (ys.flatMap AV.cells) cc2) (h1:∀x∈cc,x.oneCell'=true) (h2:∀x∈cc2,x.oneCell'=true)
  (hS1:xs≠[]→∀p (hp:p<cc.length),K.S b (o+p)=some cc[p])
  (hm:m=xs.length+ys.length) (hcap:m≤cap) (hy:ys≠[]) (hg:ai σ r=some (.tail xs.length sz)) (htl:K.tl r xs.length=some (some ⟨b,o,none⟩,cap)) (hnew:∀k,xs.length<k→K.tl r k=none)
  (hh:w.heap[b]? = some (.cells cells E (0,0))) (hroom:o+cap*sz≤cells.size) (hfree:∀p,o+xs.length*sz≤p→K.S b p=none) :
  ∃K' w',(storeCells ((⟨b,o,none⟩: Addr).add (xs.length*sz)) cc2).run P w= .ok () w'∧VR K' (ax σ r (.tail m sz)).length (.list (.own r) sz (xs++ys)) (.slice (some ⟨b,o,none⟩) m cap)∧
   R K' (ax σ r (.tail m sz)) w'∧Step K σ w K' (ax σ r (.tail m sz)) w':=by
 have hl1:cc.length=xs.length*sz:=by rw[← hv1.1,bB _ xs hs1]
 have hl2:cc2.length=ys.length*sz:=by rw[← hv2.1,bB _ ys hs2]
 have hmz:m*sz=cc.length+cc2.length:=by rw[hm,Nat.add_mul];omega
 have hle:m*sz≤cap*sz:=Nat.mul_le_mul_right sz hcap
 have hr:=aN hg
 have hyl:0<ys.length:=List.length_pos_iff.2 hy
 have hst:=run_storeCells_at P b (o+xs.length*sz) E cc2 0 cells w hh (by omega) h2
 simp only[Nat.add_zero] at hst
 let K':Kr:={K with S:=fun b' p=>if b'=b∧o+xs.length*sz≤p∧p<o+m*sz then cc2[p- (o+xs.length*sz)]? else K.S b' p,tl:=fun q k=>if q=r∧k=m then some (some ⟨b,o,none⟩,cap) else K.tl q k}
 have hext:Ext σ.length K K':=⟨fun _ _=>rfl,fun q hq k x hx=>by
  show(if q=r∧k=m then _ else _)=_
  by_cases e:q=r∧k=m
  ·obtain⟨e1,e2⟩:=e
   rw[e1,e2,hnew m (by omega)] at hx;cases hx
  ·rw[if_neg e];exact hx,fun b' p v hv=>by
  show(if b'=b∧o+xs.length*sz≤p∧p<o+m*sz then _ else _)=_
  rw[if_neg]
  ·exact hv
  ·rintro⟨rfl,h3,_⟩
   rw[hfree p h3] at hv;cases hv⟩
 have hblk:cC K r (.tail xs.length sz) b:=⟨⟨b,o,none⟩,cap,htl,by omega,rfl⟩
 obtain⟨r1,r2⟩:=hR.fP (w':=w.setRow b (cells.toList.take (o+xs.length*sz)++cc2++cells.toList.drop (o+xs.length*sz+cc2.length)).toArray) hg b hblk K' hext
  (o':= .tail m sz)
  (fun q hq=>by funext k;show(if q=r∧k=m then _ else _)=_;rw[if_neg (fun h=>hq h.1)])
  (fun b' hb=>setRow_other w _ _ _ hb) (setRow_size _ _ _)
  (fun b' p hb=>by show(if b'=b∧_ then _ else _)=_;rw[if_neg (fun h=>hb h.1)])
  (fun p v hv=>by
   rw[cell_setRow_same w b p cells _ E (0,0) hh]
   have hv':(if b=b∧o+xs.length*sz≤p∧p<o+m*sz then cc2[p- (o+xs.length*sz)]? else K.S b p)=some v:=hv
   simp only[List.getElem?_toArray]
   have hco:o+xs.length*sz≤cells.toList.length:=by simp;omega
   have hto:(cells.toList.take (o+xs.length*sz)).length=o+xs.length*sz:=by simp;omega
   split at hv'
   ·rename_i hc
    rw[List.append_assoc,List.getElem?_append_right (by omega),hto,List.getElem?_append_left (by omega)]
    exact hv'
   ·have hlt:p<o+xs.length*sz:=by
     rcases Nat.lt_or_ge p (o+xs.length*sz) with h | h
     ·exact h
     ·rw[hfree p h] at hv';cases hv'
    have:=hR.stab b p v hv'
    simp only[World.cell?,hh,Option.isSome_none,Bool.false_eq_true,if_false] at this
    rw[List.append_assoc,List.getElem?_append_left (by omega),List.getElem?_take_of_lt hlt]
    simpa using this)
  (fun b' hb=>by
   obtain⟨a',cap',g1,g2,rfl⟩:=hb
   have g1':(if r=r∧m=m then some (some (⟨b,o,none⟩: Addr),cap) else K.tl r m)=some (some a',cap'):=g1
   rw[if_pos ⟨rfl,rfl⟩] at g1';simp at g1'
   rw[← g1'.1])
  (by
   refine⟨some ⟨b,o,none⟩,cap,if_pos ⟨rfl,rfl⟩,hcap,fun k hk=>?_,fun _=>⟨b,o,_,E,rfl,setRow_heap w b cells _ E (0,0) hh,?_,fun p hp=>?_⟩⟩
   ·show(if r=r∧k=m then _ else _)=_
    rw[if_neg (by omega)];exact hnew k (by omega)
   ·simp only[List.size_toArray,List.length_append,List.length_take,List.length_drop,Array.length_toList];omega
   ·show(if b=b∧_ then _ else _)=_
    rw[if_neg (by omega)]
    exact hfree p (by omega))
  rfl rfl rfl (by rw[setRow_heap w b cells _ E (0,0) hh,hh];rfl)
 refine⟨K',_,by rw[cZ];exact hst,?_,r1,r2⟩
 have hlen2:m=(xs++ys).length:=by rw[List.length_append];exact hm
 have hsl:(ax σ r (.tail m sz)).length=σ.length:=by simp[ax]
 rw[hsl]
 rw[show(Value.slice (some ⟨b,o,none⟩) m cap)= .slice (some ⟨b,o,none⟩) (xs++ys).length cap by rw[← hlen2]]
 refine VR.nm (by omega) ⟨hr,by rw[← hlen2];exact if_pos ⟨rfl,rfl⟩⟩ ?_ (cc:=cc++cc2) ?_ ?_ (fun _=>⟨b,o,rfl,fun p hp=>?_⟩)
 ·intro i hi
  by_cases e:i<xs.length
  ·rw[List.getElem_append_left e];exact hs1 i e
  ·rw[List.getElem_append_right (by omega)];exact hs2 _ _
 ·rw[List.flatMap_append]
  exact(hv1.append hv2).mono hext (Nat.le_refl _)
 ·intro x hx
  simp only[List.mem_append] at hx
  exact hx.elim (h1 x) (h2 x)
 ·show(if b=b∧o+xs.length*sz≤o+p∧o+p<o+m*sz then _ else _)=_
  by_cases e:p<cc.length
  ·rw[if_neg (by omega),List.getElem_append_left e]
   exact hS1 (by intro h;rw[h] at hl1;simp only[List.length_nil,Nat.zero_mul] at hl1;omega) p e
  ·simp only[List.length_append] at hp
   rw[if_pos ⟨rfl,by omega,by omega⟩,List.getElem_append_right (by omega)]
   rw[List.getElem?_eq_getElem (by omega)]
   congr 2;omega
theorem VRs.two{v1 v2:AV}{cs:List Value}(h:VRs K n [v1,v2] cs):∃c1 c2,cs=[c1,c2]∧VR K n v1 c1∧VR K n v2 c2:=by
 match cs,h with
 | [],h=>have:=h.1;simp at this
 | [_],h=>have:=h.1;simp at this
 | [c1,c2],h=>exact⟨c1,c2,rfl,h.head,h.tail.head⟩
 | _::_::_::_,h=>have:=h.1;simp at this
theorem dR{xs:List AV}(h:xs.length≠0):xs≠[]:=by intro e;subst e;simp at h
theorem GD(hT:b9 P ty){σ σ':List aa}{w:World}(hR:R K σ w){t0 t1 e e':Nat}{ats:Array TypeId}(ht0:ats[0]? = some t0)(ht1:ats[1]? = some t1)(hk0:(ty t0).kd= .slice e)(hk1:(ty t1).kd= .slice e')
  {t t':Tok} {sz sz':Nat} {xs ys:List AV} {c1 c2:Value} {v:AV} (hv1:VR K σ.length (.list t sz xs) c1) (hv2:VR K σ.length (.list t' sz' ys) c2) (h:sm (ty e) σ t sz xs sz' ys=some (v,σ')) (type:TypeId) :
  ∃c K' w',(Builtin.append_ ats type #[c1,c2]).run P w= .ok c w'∧VR K' σ'.length v c∧R K' σ' w'∧Step K σ w K' σ' w':=by
 unfold sm at h
 split at h
 case isFalse=>cases h
 rename_i hc
 obtain⟨hag,hpos,hby,hzl,hsz,hsz',hbound⟩:=hc
 obtain⟨a,cap,cc,rfl,hcap,htok,hs1,hvr1,h1,ha⟩:=hv1.ll
 obtain⟨a2,cap2,cc2,rfl,hcap2,_,hs2,hvr2,h2,ha2⟩:=hv2.ll
 have hs1':∀i (h:i<xs.length),(xs[i]).cells.length=(ty e).sz:=fun i hi=>by
  rcases hsz with e | e
  ·rw[← e];exact hs1 i hi
  ·subst e;simp at hi
 have hs2':∀i (h:i<ys.length),(ys[i]).cells.length=(ty e).sz:=fun i hi=>by
  rcases hsz' with e | e
  ·rw[← e];exact hs2 i hi
  ·subst e;simp at hi
 have hl1:cc.length=xs.length*(ty e).sz:=by rw[← hvr1.1,bB _ xs hs1']
 have hl2:cc2.length=ys.length*(ty e).sz:=by rw[← hvr2.1,bB _ ys hs2']
 have hk0':(ty t0).kd≠ .other:=by rw[hk0];simp
 have hk1':(ty t1).kd≠ .other:=by rw[hk1];simp
 obtain⟨d0,hd0,hu0⟩:=aL hT hk0'
 obtain⟨d1,hd1,hu1⟩:=aL hT hk1'
 rw[hk0] at hd0;rw[hk1] at hd1
 simp only[bV] at hd0 hd1;subst hd0;subst hd1
 obtain⟨z,hz,hzr⟩:=fl (K:=K) (n:=σ.length) hT (aT hag)
 obtain⟨ti,hi1,hi2,_,hir⟩:=l5 hT (aT hag)
 have hzs:z.cells.size=(ty e).sz:=by
  have:=(hz.cells (gN hT (aT hag))).1.1;simp at this;omega
 have hfc1:=cQ (P:=P) (w:=w) hR (a:=a) (len:=xs.length) (cap:=cap) hl1 (fun hx=>ha (dR hx))
 have hfc2:=cQ (P:=P) (w:=w) hR (a:=a2) (len:=ys.length) (cap:=cap2) hl2 (fun hx=>ha2 (dR hx))
 -- the run, where there is room
 have hroom:∀w',xs.length+ys.length≤cap→(∀b,a=some b→(storeCells (b.add (xs.length*(ty e).sz)) cc2).run P w= .ok () w')→(a=none→w'=w)→
   (Builtin.append_ ats type #[.slice a xs.length cap,.slice a2 ys.length cap2]).run P w= .ok (.slice a (xs.length+ys.length) cap) w':=by
  intro w' hle hst hno
  cases a with
  | none=>simp[Builtin.append_,ht0,ht1,hu0 w,hu1 w,aY hT (aT hag),Builtin.lenOf,hle,hfc2,hno rfl]
  | some b=>simp[Builtin.append_,ht0,ht1,hu0 w,hu1 w,aY hT (aT hag),Builtin.lenOf,hle,hfc2,hst b rfl]
 have hgrow:cap<xs.length+ys.length→∃nc rest d,w.drawn≤d∧xs.length+ys.length≤nc∧rest.length=(nc- (xs.length+ys.length))*(ty e).sz∧
   (Builtin.append_ ats type #[.slice a xs.length cap,.slice a2 ys.length cap2]).run P w= .ok (.slice (some ⟨w.heap.size,0,none⟩) (xs.length+ys.length) nc) (({w with drawn:=d}:World).alloc (.cells (cc++cc2++rest).toArray e (0,0))):=by
  intro hlt
  have hq:Builtin.nextslicecap (xs.length+ys.length) cap*(ty e).bytes≤2^48:=by
   have h3:=tZ _ _ hlt
   have h4:Builtin.nextslicecap (xs.length+ys.length) cap≤8589934792:=by omega
   calc _≤8589934792*4096:=Nat.mul_le_mul h4 hby
    _≤2^48:=by decide
  have hneed:¬((xs.length:Int)+ys.length>9223372036854775807):=by omega
  generalize hnc:(xs.length+ys.length)+w.tape w.drawn (.appendCap (xs.length+ys.length) cap e)%(2^63- (xs.length+ys.length))=nc
  have hncl:xs.length+ys.length≤nc:=by omega
  let wd:World:={w with drawn:=w.drawn+1}
  have hfd1:=cQ (P:=P) (w:=wd) (hR.drew _) (a:=a) (len:=xs.length) (cap:=cap) hl1 (fun hx=>ha (dR hx))
  have hfd2:=cQ (P:=P) (w:=wd) (hR.drew _) (a:=a2) (len:=ys.length) (cap:=cap2) hl2 (fun hx=>ha2 (dR hx))
  have hch:(choose (.appendCap (xs.length+ys.length) cap e)).run P w= .ok nc wd:=by
   rw[run_choose];simp only[Question.forced,Question.cut,Bool.false_eq_true,if_false,hnc];rfl
  refine⟨nc,(Builtin.zeroCells z.cells (nc- (xs.length+ys.length))).toList,w.drawn+1,Nat.le_add_right _ _,hncl,by rw[Array.length_toList,nh,hzs],?_⟩
  have hle:¬xs.length+ys.length≤cap:=by omega
  have hb:¬(Builtin.nextslicecap (xs.length+ys.length) cap*ti.bytes>2^48):=by rw[hi2];omega
  have hb':¬(281474976710656<Builtin.nextslicecap (xs.length+ys.length) cap*ti.bytes):=by simpa using hb
  have hn9:¬(IntKind.i64.max<(xs.length:Int)+ys.length):=by simp[IntKind.max,IntKind.signed,IntKind.bits];omega
  simp[Builtin.append_,ht0,ht1,hu0 w,hu1 w,aY hT (aT hag),Builtin.lenOf,hle,hir,hb',hn9,hch,hfd1,hfd2,hzr,newRow]
  rw[if_neg (by omega),if_neg (by simp[Question.forced])]
  have hdrew:w.drew=wd:=rfl
  rw[hdrew,hfd1,Result.andThen_ok,hfd2,Result.andThen_ok]
  have hcut:(Question.appendCap (xs.length+ys.length) cap e).cut (w.tape w.drawn (Question.appendCap (xs.length+ys.length) cap e))=nc:=hnc
  rw[hcut]
  have harr:cc.toArray++(cc2.toArray++Builtin.zeroCells z.cells (nc- (xs.length+ys.length)))=(cc++cc2++(Builtin.zeroCells z.cells (nc- (xs.length+ys.length))).toList).toArray:=by
   apply Array.ext';simp
  rw[harr,List.append_assoc]
 have hxy:xs.length+ys.length=(xs++ys).length:=by simp
 cases t with
 | no=>simp at h
 | full=>
  simp only[Option.some.injEq,Prod.mk.injEq] at h
  obtain⟨rfl,rfl⟩:=h
  have hcl:cap=xs.length:=htok
  by_cases hle:xs.length+ys.length≤cap
  ·-- nothing is appended, and there is no room: the list bears a number now
   have hy0:ys.length=0:=by omega
   have hyn:ys=[]:=List.eq_nil_of_length_eq_zero hy0
   have hc0:cc2=[]:=List.eq_nil_of_length_eq_zero (by rw[hl2,hy0];simp)
   have hrun:=hroom w hle (fun b _=>by subst hc0;rfl) (fun _=>rfl)
   have hext:Ext σ.length K (K.cK σ.length fun k=>if k=xs.length+ys.length then some (a,cap) else none):=⟨fun _ _=>rfl,fun q hq k x hx=>by
    simp only[Kr.cK];rw[if_neg (by omega)];exact hx,fun _ _ _ h=>h⟩
   obtain⟨r1,r2⟩:=hR.iV (σ':=σ++[.tail (xs.length+ys.length) (ty e).sz]) σ.length (.tail (xs.length+ys.length) (ty e).sz) _ hext (by simp) (by simp)
    (fun q o' hq hg=>by
     rw[List.getElem?_append] at hg
     split at hg
     ·exact hg
     ·cases hk:q-σ.length with
      | zero=>omega
      | succ j=>rw[hk] at hg;simp at hg)
    (fun q hq=>by simp only[Kr.cK];rw[if_neg hq]) rfl
    (fun b hb=>by
     obtain⟨a',cap',g1,g2,_⟩:=hb
     simp only[Kr.cK,if_true] at g1
     simp at g1
     omega)
    ⟨a,cap,by simp only[Kr.cK,if_true],by omega,fun k hk=>by simp only[Kr.cK,if_true];rw[if_neg (by omega)],fun hc=>absurd hc (by omega)⟩
   refine⟨_,_,_,hrun,?_,r1,r2⟩
   rw[hxy]
   refine VR.nm (cc:=cc) (by rw[← hxy];exact hle) ⟨by simp,?_⟩ ?_ ?_ h1 (fun hne=>?_)
   ·simp only[Kr.cK,if_true,← hxy]
   ·subst hyn;simpa using hs1'
   ·subst hyn;simp only[List.append_nil];exact hvr1.mono hext (by simp)
   ·subst hyn;simp only[List.append_nil] at hne
    exact ha hne
  ·obtain⟨nc,rest,d,hdd,g1,g2,g3⟩:=hgrow (by omega)
   obtain⟨K',k1,k2,k3⟩:=vZ (hR.drew d) (σ':=σ++[.tail (xs.length+ys.length) (ty e).sz]) σ.length (ty e).sz (xs.length+ys.length) nc e xs ys cc cc2 rest
    (fun k=>if k=xs.length+ys.length then some (some ⟨w.heap.size,0,none⟩,nc) else none) hs1' hs2' hvr1 hvr2 h1 h2 rfl g1 g2 (by simp) (by simp) (by simp)
    (fun q o' hq hg=>by
     rw[List.getElem?_append] at hg
     split at hg
     ·exact hg
     ·cases hk:q-σ.length with
      | zero=>omega
      | succ j=>rw[hk] at hg;simp at hg)
    (by simp) (fun k hk=>by rw[if_neg (by omega)]) (fun h=>absurd h (Nat.lt_irrefl _))
   exact⟨_,K',_,g3,k1,k2,k3.drew d⟩
 | own id=>
  simp only at h
  split at h
  case h_2=>cases h
  rename_i m s hg
  split at h
  case isFalse=>cases h
  rename_i hms
  obtain⟨rfl,rfl⟩:=hms
  simp only[Option.some.injEq,Prod.mk.injEq] at h
  obtain⟨rfl,rfl⟩:=h
  obtain⟨hid,htl⟩:=htok
  obtain⟨a',cap',q1,q2,q3,q4⟩:=hR.obj id _ hg
  rw[htl] at q1;simp only[Option.some.injEq,Prod.mk.injEq] at q1
  obtain⟨rfl,rfl⟩:=q1
  have hsl:∀o,(ax σ id o).length=σ.length:=fun o=>by simp[ax]
  by_cases hle:xs.length+ys.length≤cap
  ·by_cases hyn:ys=[]
   ·have hy0:ys.length=0:=by rw[hyn];rfl
    have hc0:cc2=[]:=List.eq_nil_of_length_eq_zero (by rw[hl2,hy0];simp)
    have hrun:=hroom w hle (fun b _=>by subst hc0;rfl) (fun _=>rfl)
    have hσ:ax σ id (.tail (xs.length+ys.length) (ty e).sz)=σ:=by
     rw[hy0,Nat.add_zero]
     apply List.ext_getElem?
     intro q
     by_cases e:q=id
     ·subst e;rw[iE hid];exact hg.symm
     ·simp[ax,List.getElem?_set,Ne.symm e]
    rw[hσ]
    refine⟨_,K,w,hrun,?_,hR,.refl _ _ _⟩
    rw[hxy]
    refine VR.nm (cc:=cc) (by rw[← hxy];exact hle) ⟨hid,?_⟩ ?_ ?_ h1 (fun hne=>?_)
    ·subst hyn;simpa using htl
    ·subst hyn;simpa using hs1'
    ·subst hyn;simp only[List.append_nil];exact hvr1
    ·subst hyn;simp only[List.append_nil] at hne
     exact ha hne
   ·have hy1:0<ys.length:=List.length_pos_iff.2 hyn
    obtain⟨b,o,cells,E,rfl,q5,q6,q7⟩:=q4 (by omega)
    obtain⟨K',w',k1,k2,k3,k4⟩:=AK (P:=P) hR id (ty e).sz (xs.length+ys.length) cap b o E xs ys cc cc2 cells hs1' hs2' hvr1 hvr2 h1 h2
     (fun hne=>by obtain⟨b',o',e1,e2⟩:=ha hne;simp at e1;obtain⟨rfl,rfl⟩:=e1;exact e2) rfl hle hyn hg htl q3 q5 q6 q7
    have hrun:=hroom w' hle (fun b' hb=>by simp at hb;subst hb;exact k1) (fun h=>by cases h)
    exact⟨_,K',w',hrun,k2,k3,k4⟩
  ·obtain⟨nc,rest,d,hdd,g1,g2,g3⟩:=hgrow (by omega)
   obtain⟨K',k1,k2,k3⟩:=vZ (hR.drew d) (σ':=ax σ id (.tail (xs.length+ys.length) (ty e).sz)) id (ty e).sz (xs.length+ys.length) nc e xs ys cc cc2 rest
    (fun k=>if k=xs.length+ys.length then some (some ⟨w.heap.size,0,none⟩,nc) else K.tl id k) hs1' hs2' hvr1 hvr2 h1 h2 rfl g1 g2 (by rw[hsl];exact Nat.le_refl _) (by rw[hsl];exact hid) (iE hid)
    (fun q o' hq hg=>jW hq hg)
    (by simp) (fun k hk=>by rw[if_neg (by omega)];exact q3 k (by omega)) (fun _ k x hx=>by
     by_cases e1:k=xs.length+ys.length
     ·rw[e1,q3 _ (by omega)] at hx;cases hx
     ·rw[if_neg e1];exact hx)
   exact⟨_,K',_,g3,k1,k2,k3.drew d⟩
end Go.Mu
