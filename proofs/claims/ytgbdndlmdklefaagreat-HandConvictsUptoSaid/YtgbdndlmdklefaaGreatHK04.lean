/- Part Vc of the abstract layer: slices that are written into. -/
import Derived.Test.YtgbdndlmdklefaaGreatHK03
set_option linter.unusedSimpArgs false
set_option linter.unusedVariables false
namespace Go.Mu
open Go
variable {P:Program}{K:Kr}{n N:Nat}{ty:Nat→TI}
theorem DF{σ:List aa}{r:Nat}{x:aa}(h:ai σ r=some x):ax σ r x=σ:=by
 unfold ai at h;unfold ax
 obtain⟨h1,h2⟩:=List.getElem?_eq_some_iff.1 h
 rw[← h2];exact List.set_getElem_self h1
theorem VR.one{v:AV}{c:Value}(h:VR K n v c)(h1:c.oneCell'=true):v.cells=[v]:=by
 cases h<;> simp[AV.cells,Value.oneCell'] at h1⊢
theorem wQ{x:AV}{c:Value}{cs:List AV}{cc:List Value}(hx:VR K n x c)(hf:x.flat=true)(hl:cs.length=x.cells.length)(hv:VRs K n cs cc)(h1:∀c∈cc,c.oneCell'=true):(je x cs).cells=cs∧(je x cs).flat=true:=by
 cases x with
 | agg ds=>exact⟨rfl,rfl⟩
 | tup ds=>simp[AV.flat] at hf
 | _=>
  simp[AV.cells] at hl
  obtain⟨c',rfl⟩:=List.length_eq_one_iff.1 hl
  obtain⟨d,rfl⟩:=List.length_eq_one_iff.1 (hv.1.symm.trans hl)
  have hd:=h1 d (by simp)
  have:=hv.head.one hd
  refine⟨this,?_⟩
  have hq:=hv.head
  show c'.flat=true
  cases hq<;> simp[AV.flat,Value.oneCell'] at hd⊢
theorem qN(sz:Nat):∀(xs:List AV) (i:Nat) (x':AV) (off:Nat) (new:List AV) (hs:∀i (h:i<xs.length),(xs[i]).cells.length=sz) (hi:i<xs.length),x'.cells=putAt off new (xs[i]).cells→off+new.length≤sz→
  (xs.set i x').flatMap AV.cells=putAt (i*sz+off) new (xs.flatMap AV.cells)
 | [],i,x',off,new,hs,hi,_,_=>by simp at hi
 | x::xs,0,x',off,new,hs,hi,he,hl=>by
  have h0:x.cells.length=sz:=hs 0 (by simp)
  simp only[List.getElem_cons_zero] at he
  simp only[List.set_cons_zero,List.flatMap_cons,he,putAt,Nat.zero_mul,Nat.zero_add]
  rw[List.take_append_of_le_length (by omega),List.drop_append_of_le_length (by omega)]
  simp
 | x::xs,i+1,x',off,new,hs,hi,he,hl=>by
  have h0:x.cells.length=sz:=hs 0 (by simp)
  have hr:∀i (h:i<xs.length),(xs[i]).cells.length=sz:=fun i hi=>by have:=hs (i+1) (by simpa using hi);simpa using this
  simp only[List.set_cons_succ,List.flatMap_cons]
  rw[qN sz xs i x' off new hr (by simpa using hi) (by simpa using he) hl]
  have e:(i+1)*sz+off=x.cells.length+(i*sz+off):=by rw[Nat.add_mul,h0];omega
  rw[e]
  have e3:∀(F:List AV) k,(x.cells++F).take (x.cells.length+k)=x.cells++F.take k:=fun F k=>List.take_length_add_append ..
  have e4:∀(F:List AV) k,(x.cells++F).drop (x.cells.length+k+new.length)=F.drop (k+new.length):=fun F k=>by rw[Nat.add_assoc,List.drop_length_add_append]
  unfold putAt
  rw[e3,e4]
  simp only[List.append_assoc]
theorem BL{w:World}{r sz:Nat}{xs:List AV}(h:eF K n w r (.vec sz xs)) :
  ∃a cap cc,K.tl r xs.length=some (a,cap)∧xs.length≤cap∧cc.length=xs.length*sz∧VRs K n (xs.flatMap AV.cells) cc∧(∀c∈cc,c.oneCell'=true)∧
   (xs.length≠0→∃b o,a=some ⟨b,o,none⟩∧∀p (hp:p<cc.length),w.cell? ⟨b,o+p,none⟩= some cc[p]):=by
 obtain⟨a,cap,h1,h2,h3,h4,h5⟩:=h
 by_cases hc:0<cap
 ·obtain⟨b,o,cc,E,rfl,g2,g3,g4,g5,g6⟩:=h5 hc
  have hle:xs.length*sz≤cap*sz:=Nat.mul_le_mul_right sz h2
  have hl:((cc.toList.drop o).take (xs.length*sz)).length=xs.length*sz:=by simp;omega
  refine⟨_,cap,(cc.toList.drop o).take (xs.length*sz),h1,h2,hl,g4,fun c hc=>g5 c (List.mem_of_mem_drop (List.mem_of_mem_take hc)),fun _=>⟨b,o,rfl,fun p hp=>?_⟩⟩
  have:o+p<cc.size:=by omega
  simp[World.cell?,g2,this]
 ·have h0:xs=[]:=List.eq_nil_of_length_eq_zero (by omega)
  subst h0
  exact⟨a,cap,[],h1,h2,by simp,.nil,by simp,fun h=>absurd rfl h⟩
theorem me{w:World}{a:Option Addr}{len cap sz k:Nat}{cc:List Value}(hk:cc.length=k*sz)
  (ha:k≠0→∃b o,a=some ⟨b,o,none⟩∧∀p (hp:p<cc.length),w.cell? ⟨b,o+p,none⟩= some cc[p]):(Builtin.firstCells sz k (.slice a len cap)).run P w= .ok cc.toArray w:=by
 by_cases h0:k=0
 ·subst h0
  simp at hk;subst hk
  cases a with
  | none=>rfl
  | some a=>simp[Builtin.firstCells,loadCells,loadCellsFrom]
 ·obtain⟨b,o,rfl,h⟩:=ha h0
  simp only[Builtin.firstCells]
  rw[← hk]
  refine run_loadCells_list w ⟨b,o,none⟩ cc fun j v hv=>?_
  obtain⟨hj,rfl⟩:=List.getElem?_eq_some_iff.1 hv
  rw[cZ]
  exact h j hj
theorem Ax(hT:b9 P ty){σ:List aa}{w:World}(hR:R K σ w){r sz i off t:Nat}{xs:List AV}(hg:ai σ r=some (.vec sz xs)){c:Value}(hv:VR K σ.length (.vptr r xs.length sz i off) c)(hi:i<xs.length){v:AV}
  (hs:ff off (ty t).sz (xs[i]).cells (ty t).kd.agg=some v):∃b o c',c= .pointer (some ⟨b,o,none⟩)∧(loadVar t ⟨b,o,none⟩).run P w= .ok c' w∧VR K σ.length v c':=by
 have hO:=hR.obj r _ hg
 have hsz:∀i (h:i<xs.length),(xs[i]).cells.length=sz:=by obtain⟨_,_,_,_,_,h,_⟩:=hO;exact h
 obtain⟨a,cap,cc,h1,h2,hl,h3,h4,h5⟩:=BL hO
 obtain⟨b,o,rfl,h6⟩:=h5 (by omega)
 cases hv with
 | vptr _ _ _ _ _ b' o' cap' hr ht=>
  rw[h1] at ht
  simp only[Option.some.injEq,Prod.mk.injEq,Addr.mk.injEq] at ht
  obtain⟨⟨rfl,rfl,_⟩,rfl⟩:=ht
  have hmul:(i+1)*sz≤xs.length*sz:=Nat.mul_le_mul_right sz hi
  rw[Nat.add_mul] at hmul
  have key:=kS (P:=P) (K:=K) (n:=σ.length) (w:=w) (b:=b) (o:=o+i*sz) (f:=fun j=>cc.getD (i*sz+j) undef) hT (cs:=(xs[i]).cells) (fun j hj=>?_) hs
  ·obtain⟨c',k1,k2⟩:=key
   exact⟨b,o+(i*sz+off),c',rfl,by rw[← Nat.add_assoc];exact k1,k2⟩
  ·have hj':j<sz:=by rw[← hsz i hi];exact hj
   have hlt:i*sz+j<cc.length:=by omega
   have hd:cc.getD (i*sz+j) undef=cc[i*sz+j]:=by simp[List.getD,List.getElem?_eq_getElem hlt]
   have hgm:=gr sz xs i j hsz hj'
   have hlt':i*sz+j<(xs.flatMap AV.cells).length:=by rw[h3.1];exact hlt
   rw[List.getElem?_eq_getElem hlt',List.getElem?_eq_getElem hi] at hgm
   simp only[Option.bind_some,List.getElem?_eq_getElem hj,Option.some.injEq] at hgm
   have hvr:=h3.2 _ hlt' hlt
   rw[hgm] at hvr
   refine⟨?_,?_,?_⟩
   ·show _=some (cc.getD (i*sz+j) undef)
    rw[hd,Nat.add_assoc];exact h6 _ hlt
   ·show(cc.getD (i*sz+j) undef).oneCell'=true
    rw[hd];exact h4 _ (List.getElem_mem hlt)
   ·show VR K σ.length _ (cc.getD (i*sz+j) undef)
    rw[hd];exact hvr
theorem yT(hT:b9 P ty){σ:List aa}{w:World}(hR:R K σ w){r sz i off t:Nat}{xs:List AV}(hk:(ty t).kd.agg.isSome=true)(hg:ai σ r=some (.vec sz xs)){c:Value}(hp:VR K σ.length (.vptr r xs.length sz i off) c)(hi:i<xs.length)
  (hfx:(xs[i]).flat=true) {v:AV} {d:Value} (hv:VR K σ.length v d) (hf:v.flat=true) (hl:v.cells.length=(ty t).sz) (hlen:off+v.cells.length≤sz) :
  ∃w',(Instr.storeAt t c d).run P w= .ok () w'∧R K (ax σ r (.vec sz (xs.set i (je (xs[i]) (putAt off v.cells (xs[i]).cells))))) w'∧Step K σ w K (ax σ r (.vec sz (xs.set i (je (xs[i]) (putAt off v.cells (xs[i]).cells))))) w':=by
 obtain⟨a,cap,h1,h2,h3,hsz,h5⟩:=hR.obj r _ hg
 obtain⟨b,o,cc,E,rfl,g2,g3,g4,g5,g6⟩:=h5 (by omega)
 obtain⟨q1,q2⟩:=hv.cells hf
 have hdz:d.cells.size=(ty t).sz:=by have:=q1.1;simp at this;omega
 cases hp with
 | vptr _ _ _ _ _ b' o' cap' hr ht=>
  rw[h1] at ht
  simp only[Option.some.injEq,Prod.mk.injEq,Addr.mk.injEq] at ht
  obtain⟨⟨rfl,rfl,_⟩,rfl⟩:=ht
  have hmul:(i+1)*sz≤xs.length*sz:=Nat.mul_le_mul_right sz hi
  have hmul2:xs.length*sz≤cap*sz:=Nat.mul_le_mul_right sz h2
  rw[Nat.add_mul] at hmul
  have hst:=run_storeCells_at P b (o+(i*sz+off)) E d.cells.toList 0 cc w g2 (by simp;omega) (fun x hx=>q2 x hx)
  simp only[Nat.add_zero] at hst
  have hdl:d.cells.toList.length=v.cells.length:=q1.1.symm
  have hrow:VRs K σ.length (xs.flatMap AV.cells) ((cc.toList.drop o).take (xs.length*sz)):=g4
  have hxi:VRs K σ.length (xs[i]).cells (((cc.toList.drop o).take (xs.length*sz)).drop (i*sz) |>.take sz):=by
   have:=(hrow.drop (i*sz)).take sz
   have e:((xs.flatMap AV.cells).drop (i*sz)).take sz=(xs[i]).cells:=by
    apply List.ext_getElem?
    intro j
    by_cases hj:j<sz
    ·rw[List.getElem?_take_of_lt hj,List.getElem?_drop,gr sz xs i j hsz hj,List.getElem?_eq_getElem hi];rfl
    ·rw[List.getElem?_take_eq_none (by omega),List.getElem?_eq_none (by rw[hsz i hi];omega)]
   rwa [e] at this
  have hone:∀c∈(((cc.toList.drop o).take (xs.length*sz)).drop (i*sz) |>.take sz),c.oneCell'=true:=fun c hc=>g5 c (List.mem_of_mem_drop (List.mem_of_mem_take (List.mem_of_mem_drop (List.mem_of_mem_take hc))))
  have hput:VRs K σ.length (putAt off v.cells (xs[i]).cells) (let l:=(((cc.toList.drop o).take (xs.length*sz)).drop (i*sz) |>.take sz);l.take off++d.cells.toList++l.drop (off+v.cells.length)):=((hxi.take off).append q1).append (hxi.drop _)
  have hpl:(putAt off v.cells (xs[i]).cells).length=(xs[i]).cells.length:=by
   have:=hsz i hi
   simp only[putAt,List.length_append,List.length_take,List.length_drop];omega
  have hoc:(je (xs[i]) (putAt off v.cells (xs[i]).cells)).cells=putAt off v.cells (xs[i]).cells∧(je (xs[i]) (putAt off v.cells (xs[i]).cells)).flat=true:=by
   cases hx:xs[i] with
   | agg ds=>exact⟨rfl,rfl⟩
   | tup ds=>rw[hx] at hfx;simp[AV.flat] at hfx
   | _=>
    rw[hx] at hxi hput hpl
    have hx1:=hxi.1
    simp only[AV.cells,List.length_singleton] at hx1 hxi hpl
    obtain⟨e,he⟩:=List.length_eq_one_iff.1 hx1.symm
    rw[he] at hxi
    refine wQ (K:=K) (n:=σ.length) hxi.head (by rw[hx] at hfx;exact hfx) hpl hput fun c hc=>?_
    simp only[List.mem_append] at hc
    rcases hc with(hc | hc) | hc
    ·exact hone c (List.mem_of_mem_take hc)
    ·exact q2 c hc
    ·exact hone c (List.mem_of_mem_drop hc)
  have hfm:=qN sz xs i _ off v.cells hsz hi hoc.1 hlen
  refine⟨w.setRow b (cc.toList.take (o+(i*sz+off))++d.cells.toList++cc.toList.drop (o+(i*sz+off)+d.cells.toList.length)).toArray,?_,?_⟩
  ·simp only[Instr.storeAt,Instr.sureAddr,storeVar,Sem.run_bind,Sem.run_pure,Result.andThen_ok,aY hT (aT hk),hdz,ne_eq,not_true_eq_false,if_false]
   exact hst
  ·refine hR.fP hg b ⟨_,cap,h1,by omega,rfl⟩ K (.refl _ _) (fun _ _=>rfl) (fun b hb=>setRow_other w _ _ _ hb) (setRow_size _ _ _) (fun _ _ _=>rfl) (fun p v' hv'=>by rw[g6 p] at hv';cases hv') (fun b' hb=>?_) ?_ rfl rfl rfl (by rw[setRow_heap w _ cc _ E (0,0) g2,g2];rfl)
   ·obtain⟨a',cap',k1,k2,rfl⟩:=hb
    simp only[List.length_set] at k1
    rw[h1] at k1;simp at k1;rw[← k1.1]
   ·refine⟨_,cap,by simpa using h1,by simpa using h2,by simpa using h3,fun j hj=>?_,fun hc=>⟨b,o,_,E,rfl,setRow_heap w _ cc _ E (0,0) g2,?_,?_,?_,g6⟩⟩
    ·rw[List.getElem_set]
     split
     ·rw[hoc.1,hpl];exact hsz i hi
     ·exact hsz j (by simpa using hj)
    ·simp only[List.size_toArray,List.length_append,List.length_take,List.length_drop,Array.length_toList];omega
    ·rw[hfm]
     simp only[List.length_set]
     have hnew:((cc.toList.take (o+(i*sz+off))++d.cells.toList++cc.toList.drop (o+(i*sz+off)+d.cells.toList.length)).drop o).take (xs.length*sz) =
       (let l:=(cc.toList.drop o).take (xs.length*sz);l.take (i*sz+off)++d.cells.toList++l.drop (i*sz+off+v.cells.length)):=by
      have hsz2:cc.toList.length=cc.size:=by simp
      apply List.ext_getElem?
      intro j
      simp only[List.getElem?_take,List.getElem?_drop,List.getElem?_append,List.length_append,List.length_take,List.length_drop,hdl,hsz2]
      grind
     rw[hnew]
     exact((hrow.take _).append q1).append (hrow.drop _)
    ·intro x hx
     simp only[List.mem_append] at hx
     rcases hx with(hx | hx) | hx
     ·exact g5 x (List.mem_of_mem_take hx)
     ·exact q2 x hx
     ·exact g5 x (List.mem_of_mem_drop hx)
theorem mD(hT:b9 P ty){w w':World}{t0 t1 e e':Nat}{ats:Array TypeId}(ht0:ats[0]? = some t0)(ht1:ats[1]? = some t1)(hk0:(ty t0).kd= .slice e)(hk1:(ty t1).kd= .slice e')(hag:(ty e).kd.agg.isSome=true)(type:TypeId)
  {a a2:Option Addr} {l cap l2 cap2:Nat} {cc2:List Value} (hle:l+l2≤cap) (hfc2:(Builtin.firstCells (ty e).sz l2 (.slice a2 l2 cap2)).run P w= .ok cc2.toArray w)
  (hst:∀b,a=some b→(storeCells (b.add (l*(ty e).sz)) cc2).run P w= .ok () w') (hno:a=none→w'=w) :
  (Builtin.append_ ats type #[.slice a l cap,.slice a2 l2 cap2]).run P w= .ok (.slice a (l+l2) cap) w':=by
 have hk0':(ty t0).kd≠ .other:=by rw[hk0];simp
 have hk1':(ty t1).kd≠ .other:=by rw[hk1];simp
 obtain⟨d0,hd0,hu0⟩:=aL hT hk0'
 obtain⟨d1,hd1,hu1⟩:=aL hT hk1'
 rw[hk0] at hd0;rw[hk1] at hd1
 simp only[bV] at hd0 hd1;subst hd0;subst hd1
 cases a with
 | none=>simp[Builtin.append_,ht0,ht1,hu0 w,hu1 w,aY hT (aT hag),Builtin.lenOf,hle,hfc2,hno rfl]
 | some b=>simp[Builtin.append_,ht0,ht1,hu0 w,hu1 w,aY hT (aT hag),Builtin.lenOf,hle,hfc2,hst b rfl]
theorem qQ(hT:b9 P ty){w:World}{t0 t1 e e':Nat}{ats:Array TypeId}(ht0:ats[0]? = some t0)(ht1:ats[1]? = some t1)(hk0:(ty t0).kd= .slice e)(hk1:(ty t1).kd= .slice e')(hag:(ty e).kd.agg.isSome=true)(hby:(ty e).bytes≤4096)
  (hzl:(ty e).zero.cells.length=(ty e).sz) (type:TypeId)
  {a a2:Option Addr} {l cap l2 cap2:Nat} {cc cc2:List Value} (hlt:cap<l+l2) (hbound:l+l2≤4294967296) (hfd1:∀d,(Builtin.firstCells (ty e).sz l (.slice a l cap)).run P {w with drawn:=d}= .ok cc.toArray {w with drawn:=d})
  (hfd2:∀d,(Builtin.firstCells (ty e).sz l2 (.slice a2 l2 cap2)).run P {w with drawn:=d}= .ok cc2.toArray {w with drawn:=d}) :
  ∃nc rest d,w.drawn≤d∧l+l2≤nc∧rest.length=(nc- (l+l2))*(ty e).sz∧(∀x∈rest,x.oneCell'=true)∧
   (Builtin.append_ ats type #[.slice a l cap,.slice a2 l2 cap2]).run P w= .ok (.slice (some ⟨w.heap.size,0,none⟩) (l+l2) nc) (({w with drawn:=d}:World).alloc (.cells (cc++cc2++rest).toArray e (0,0))):=by
 have hk0':(ty t0).kd≠ .other:=by rw[hk0];simp
 have hk1':(ty t1).kd≠ .other:=by rw[hk1];simp
 obtain⟨d0,hd0,hu0⟩:=aL hT hk0'
 obtain⟨d1,hd1,hu1⟩:=aL hT hk1'
 rw[hk0] at hd0;rw[hk1] at hd1
 simp only[bV] at hd0 hd1;subst hd0;subst hd1
 obtain⟨z,hz,hzr⟩:=fl (K:=⟨fun _=>0,fun _ _=>none,fun _ _=>none⟩) (n:=0) hT (aT hag)
 obtain⟨ti,hi1,hi2,_,hir⟩:=l5 hT (aT hag)
 have hzc:=hz.cells (gN hT (aT hag))
 have hzs:z.cells.size=(ty e).sz:=by
  have:=hzc.1.1;simp at this;omega
 have hq:Builtin.nextslicecap (l+l2) cap*(ty e).bytes≤2^48:=by
  have h3:=tZ _ _ hlt
  have h4:Builtin.nextslicecap (l+l2) cap≤8589934792:=by omega
  calc _≤8589934792*4096:=Nat.mul_le_mul h4 hby
   _≤2^48:=by decide
 generalize hnc:(l+l2)+w.tape w.drawn (.appendCap (l+l2) cap e)%(2^63- (l+l2))=nc
 have hncl:l+l2≤nc:=by omega
 let wd:World:={w with drawn:=w.drawn+1}
 have hfd1':(Builtin.firstCells (ty e).sz l (.slice a l cap)).run P wd= .ok cc.toArray wd:=hfd1 _
 have hfd2':(Builtin.firstCells (ty e).sz l2 (.slice a2 l2 cap2)).run P wd= .ok cc2.toArray wd:=hfd2 _
 have hch:(choose (.appendCap (l+l2) cap e)).run P w= .ok nc wd:=by
  rw[run_choose];simp only[Question.forced,Question.cut,Bool.false_eq_true,if_false,hnc];rfl
 refine⟨nc,(Builtin.zeroCells z.cells (nc- (l+l2))).toList,w.drawn+1,Nat.le_add_right _ _,hncl,by rw[Array.length_toList,nh,hzs],fun x hx=>?_,?_⟩
 ·simp only[Builtin.zeroCells,Array.toList_map,List.mem_map] at hx
  obtain⟨q,hq,rfl⟩:=hx
  have hq':q<(nc- (l+l2))*z.cells.size:=by simpa using hq
  have hpos:0<z.cells.size:=by
   rcases Nat.eq_zero_or_pos z.cells.size with h | h
   ·rw[h] at hq';simp at hq'
   ·exact h
  have hm:=Nat.mod_lt q hpos
  rw[getElem!_pos z.cells (q%z.cells.size) hm]
  exact hzc.2 _ (by simp)
 have hle:¬l+l2≤cap:=by omega
 have hb:¬(Builtin.nextslicecap (l+l2) cap*ti.bytes>2^48):=by rw[hi2];omega
 have hb':¬(281474976710656<Builtin.nextslicecap (l+l2) cap*ti.bytes):=by simpa using hb
 have hn9:¬(IntKind.i64.max<(l:Int)+l2):=by simp[IntKind.max,IntKind.signed,IntKind.bits];omega
 simp[Builtin.append_,ht0,ht1,hu0 w,hu1 w,aY hT (aT hag),Builtin.lenOf,hle,hir,hb',hn9,hch,hfd1',hfd2',hzr,newRow]
 rw[if_neg (by omega),if_neg (by simp[Question.forced])]
 have hdrew:w.drew=wd:=rfl
 rw[hdrew,hfd1',Result.andThen_ok,hfd2',Result.andThen_ok]
 have hcut:(Question.appendCap (l+l2) cap e).cut (w.tape w.drawn (Question.appendCap (l+l2) cap e))=nc:=hnc
 rw[hcut]
 have harr:cc.toArray++(cc2.toArray++Builtin.zeroCells z.cells (nc- (l+l2)))=(cc++cc2++(Builtin.zeroCells z.cells (nc- (l+l2))).toList).toArray:=by
  apply Array.ext';simp
 rw[harr,List.append_assoc]
theorem DT{sz:Nat}{xs ys:List AV}(hs1:∀i (h:i<xs.length),(xs[i]).cells.length=sz)(hs2:∀i (h:i<ys.length),(ys[i]).cells.length=sz):∀i (h:i<(xs++ys).length),((xs++ys)[i]).cells.length=sz:=fun i hi=>by
 by_cases e:i<xs.length
 ·rw[List.getElem_append_left e];exact hs1 i e
 ·rw[List.getElem_append_right (by omega)];exact hs2 _ _
theorem DH(hT:b9 P ty){σ σ':List aa}{w:World}(hR:R K σ w){t0 t1 e e':Nat}{ats:Array TypeId}(ht0:ats[0]? = some t0)(ht1:ats[1]? = some t1)(hk0:(ty t0).kd= .slice e)(hk1:(ty t1).kd= .slice e')
  {t':Tok} {sz sz':Nat} {ys:List AV} {c1 c2:Value} {v:AV} (hv1:VR K σ.length (.list .full sz []) c1) (hv2:VR K σ.length (.list t' sz' ys) c2) (h:zH (ty e) σ sz' ys=some (v,σ')) (type:TypeId) :
  ∃c K' w',(Builtin.append_ ats type #[c1,c2]).run P w= .ok c w'∧VR K' σ'.length v c∧R K' σ' w'∧Step K σ w K' σ' w':=by
 unfold zH at h
 split at h
 case isFalse=>cases h
 rename_i hc
 obtain⟨hag,hpos,hby,hzl,hsz',hbound⟩:=hc
 simp only[Option.some.injEq,Prod.mk.injEq] at h
 obtain⟨rfl,rfl⟩:=h
 obtain⟨a2,cap2,cc2,rfl,hcap2,_,hs2,hvr2,h2,ha2⟩:=hv2.ll
 obtain⟨a,cap,cc,rfl,hcap,htok,_⟩:=hv1.ll
 have hc0:cap=0:=htok
 subst hc0
 have hs2':∀i (h:i<ys.length),(ys[i]).cells.length=(ty e).sz:=fun i hi=>by
  rcases hsz' with e | e
  ·rw[← e];exact hs2 i hi
  ·subst e;simp at hi
 have hl2:cc2.length=ys.length*(ty e).sz:=by rw[← hvr2.1,bB _ ys hs2']
 have hfc2:=cQ (P:=P) (w:=w) hR (a:=a2) (len:=ys.length) (cap:=cap2) hl2 (fun hx=>ha2 (dR hx))
 have hnewq:∀(o:aa) q o',q≠σ.length→(σ++[o])[q]? = some o'→σ[q]? = some o':=fun o q o' hq hg=>by
  rw[List.getElem?_append] at hg
  split at hg
  ·exact hg
  ·cases hk:q-σ.length with
   | zero=>omega
   | succ j=>rw[hk] at hg;simp at hg
 by_cases hyn:ys=[]
 ·subst hyn
  have hc0:cc2=[]:=List.eq_nil_of_length_eq_zero (by rw[hl2];simp)
  let K':Kr:=K.cK σ.length fun k=>if k=0 then some (a,0) else none
  have hext:Ext σ.length K K':=⟨fun _ _=>rfl,fun q hq k x hx=>by simp only[K',Kr.cK];rw[if_neg (by omega)];exact hx,fun _ _ _ h=>h⟩
  have hK':∀k,K'.tl σ.length k=if k=0 then some (a,0) else none:=fun k=>by simp only[K',Kr.cK,if_true]
  obtain⟨r1,r2⟩:=hR.iV (σ':=σ++[.vec (ty e).sz []]) σ.length (.vec (ty e).sz []) K' hext (by simp) (by simp) (hnewq _)
   (fun q hq=>by simp only[K',Kr.cK];rw[if_neg hq]) rfl
   (fun b hb=>by
    obtain⟨a',cap',g1,g2,_⟩:=hb
    rw[hK'] at g1;simp at g1;omega)
   ⟨a,0,by rw[hK'];rfl,Nat.le_refl _,fun k hk=>by rw[hK',if_neg (by simp at hk;omega)],fun i hi=>by simp at hi,fun h=>absurd h (Nat.lt_irrefl _)⟩
  refine⟨_,K',w,mD hT ht0 ht1 hk0 hk1 hag type (by simp) hfc2 (fun b _=>by subst hc0;rfl) (fun _=>rfl),?_,r1,r2⟩
  exact .vec _ _ a 0 (by simp) (by simp) (by rw[hK'];rfl) (.inl rfl)
 have hyl:0<ys.length:=List.length_pos_iff.2 hyn
 obtain⟨nc,rest,d,hdd,g1,g2,g2',g3⟩:=qQ hT ht0 ht1 hk0 hk1 hag hby hzl type (a:=a) (a2:=a2) (cap2:=cap2) (cc:=[]) (cc2:=cc2) (w:=w) (l:=0) (l2:=ys.length) (cap:=0) (by omega) (by omega)
  (fun d=>me (by simp) (fun hx=>absurd rfl hx))
  (fun d=>cQ (hR.drew d) hl2 (fun hx=>ha2 (dR hx)))
 let K':Kr:=K.cK σ.length fun k=>if k=ys.length then some (some ⟨w.heap.size,0,none⟩,nc) else none
 have hext:Ext σ.length K K':=⟨fun _ _=>rfl,fun q hq k x hx=>by simp only[K',Kr.cK];rw[if_neg (by omega)];exact hx,fun _ _ _ h=>h⟩
 have hK':∀k,K'.tl σ.length k=if k=ys.length then some (some ⟨w.heap.size,0,none⟩,nc) else none:=fun k=>by simp only[K',Kr.cK,if_true]
 have htot:(cc2++rest).length=nc*(ty e).sz:=by
  simp only[List.length_append,g2]
  have:nc*(ty e).sz=ys.length*(ty e).sz+(nc- (0+ys.length))*(ty e).sz:=by rw[← Nat.add_mul];congr 1;omega
  omega
 have hg3:([]++cc2++rest)=cc2++rest:=by simp
 rw[hg3] at g3
 obtain⟨r1,r2⟩:=(hR.drew d).newAt (σ':=σ++[.vec (ty e).sz ys]) σ.length (.vec (ty e).sz ys) (.cells (cc2++rest).toArray e (0,0)) K' hext (by simp) (by simp) (by simp) (hnewq _)
  (fun q hq=>by simp only[K',Kr.cK];rw[if_neg hq]) (fun b p v hv=> .inl hv)
  (fun b hb=>by
   obtain⟨a',cap',k1,k2,rfl⟩:=hb
   rw[hK'] at k1;simp at k1;rw[← k1.1])
  ⟨_,nc,by rw[hK',if_pos rfl],by omega,fun k hk=>by rw[hK',if_neg (by omega)],hs2',fun _=>⟨w.heap.size,0,_,e,rfl,heap_alloc_new _ _,by
    simp only[Nat.zero_add,List.size_toArray,htot];exact Nat.le_refl _,by
    simp only[List.drop_zero]
    rw[← hl2,List.take_left']
    ·exact hvr2.mono hext (by simp)
    ·rfl,by
    intro x hx
    simp only[List.mem_append] at hx
    rcases hx with hx | hx
    ·exact h2 x hx
    ·exact g2' x hx,fun p=>by
    cases hk:K.S w.heap.size p with
    | none=>exact hk
    | some v=>have:=hR.lt hk;omega⟩⟩
 refine⟨_,K',_,g3,?_,r1,r2.drew d⟩
 rw[Nat.zero_add]
 exact .vec _ _ _ nc (by simp) (by omega) (by rw[hK',if_pos rfl]) (.inr ⟨_,_,rfl⟩)
theorem sT(hT:b9 P ty){σ:List aa}{w:World}(hR:R K σ w){t e:Nat}{l:Int}{k k':IntKind}(hkd:(ty t).kd= .slice e)(h0:0≤l)(h1:l≤1048576)(hag:(ty e).kd.agg.isSome=true)(hby:(ty e).bytes≤4096)(hpos:0<(ty e).sz)(hzl:(ty e).zero.cells.length=(ty e).sz) :
  ∃c K' w',(Instr.makeSlice t (.int k l) (.int k' l)).run P w= .ok c w'∧VR K' (σ.length+1) (.vec σ.length l.toNat) c∧R K' (σ++[.vec (ty e).sz (List.replicate l.toNat (ty e).zero)]) w'∧Step K σ w K' (σ++[.vec (ty e).sz (List.replicate l.toNat (ty e).zero)]) w':=by
 have hk0':(ty t).kd≠ .other:=by rw[hkd];simp
 obtain⟨d0,hd0,hu0⟩:=aL hT hk0'
 rw[hkd] at hd0
 simp only[bV] at hd0;subst hd0
 obtain⟨z,hz,hzr⟩:=fl (K:=K) (n:=σ.length) hT (aT hag)
 obtain⟨ti,hi1,hi2,_,hir⟩:=l5 hT (aT hag)
 obtain⟨q1,q2⟩:=hz.cells (gN hT (aT hag))
 have hzs:z.cells.size=(ty e).sz:=by have:=q1.1;simp at this;omega
 have hw:IntKind.i64.wrap l=l:=by rw[IntKind.wrap_i64];omega
 generalize hn:l.toNat=n
 have hln:l=n:=by omega
 let row:Array Value:=(Array.range (n*(ty e).sz)).map (z.cells[· % z.cells.size]!)
 have hrow:row.size=n*(ty e).sz:=by simp[row]
 have hone:∀c∈row.toList,c.oneCell'=true:=fun c hc=>by
  simp only[row,Array.toList_map,List.mem_map] at hc
  obtain⟨q,hq,rfl⟩:=hc
  have hm:=Nat.mod_lt q (show 0<z.cells.size by omega)
  rw[getElem!_pos z.cells (q%z.cells.size) hm]
  exact q2 _ (by simp)
 have hVR:VRs K σ.length ((List.replicate n (ty e).zero).flatMap AV.cells) row.toList:=by
  have hl:((List.replicate n (ty e).zero).flatMap AV.cells).length=n*(ty e).sz:=by rw[bB (ty e).sz _ (fun i hi=>by simp[hzl])];simp
  refine⟨by rw[hl];simp[row],fun i g1 g2=>?_⟩
  rw[hl] at g1
  have hd:i/(ty e).sz<n:=(Nat.div_lt_iff_lt_mul hpos).2 g1
  have hm:=Nat.mod_lt i hpos
  have hgm:=gr (ty e).sz (List.replicate n (ty e).zero) (i/(ty e).sz) (i%(ty e).sz) (fun i hi=>by simp[hzl]) hm
  have hdm:i/(ty e).sz*(ty e).sz+i%(ty e).sz=i:=by rw[Nat.mul_comm];exact Nat.div_add_mod i _
  rw[hdm,List.getElem?_eq_getElem (by rw[hl];exact g1),List.getElem?_eq_getElem (by simpa using hd)] at hgm
  simp only[Option.bind_some,List.getElem_replicate] at hgm
  have hlt:i%(ty e).sz<(ty e).zero.cells.length:=by omega
  rw[List.getElem?_eq_getElem hlt,Option.some.injEq] at hgm
  rw[hgm]
  have hm':i%z.cells.size<z.cells.size:=by rw[hzs];exact hm
  have hr:row.toList[i]=z.cells.toList[i%(ty e).sz]'(by simp;omega):=by
   simp only[row,Array.getElem_toList,Array.getElem_map,Array.getElem_range]
   rw[getElem!_pos z.cells (i%z.cells.size) hm']
   simp[hzs]
  rw[hr]
  exact q1.2 _ hlt _
 let K':Kr:=K.cK σ.length fun k=>if k=n then some (some ⟨w.heap.size,0,none⟩,n) else none
 have hext:Ext σ.length K K':=⟨fun _ _=>rfl,fun q hq k x hx=>by simp only[K',Kr.cK];rw[if_neg (by omega)];exact hx,fun _ _ _ h=>h⟩
 have hK':∀k,K'.tl σ.length k=if k=n then some (some ⟨w.heap.size,0,none⟩,n) else none:=fun k=>by simp only[K',Kr.cK,if_true]
 obtain⟨r1,r2⟩:=hR.new (.vec (ty e).sz (List.replicate n (ty e).zero)) (.cells row e (0,0)) K' hext
  (fun q hq=>by simp only[K',Kr.cK];rw[if_neg hq]) (fun b p v hv=> .inl hv)
  (fun b hb=>by
   obtain⟨a',cap',k1,k2,rfl⟩:=hb
   rw[List.length_replicate,hK',if_pos rfl] at k1;simp at k1;rw[← k1.1])
  ⟨_,n,by rw[List.length_replicate,hK',if_pos rfl],by simp,fun k hk=>by rw[List.length_replicate] at hk;rw[hK',if_neg (by omega)],fun i hi=>by simp[hzl],fun _=>⟨w.heap.size,0,row,e,rfl,heap_alloc_new _ _,by
    rw[hrow,Nat.zero_add];exact Nat.le_refl _,by
    rw[List.drop_zero,List.length_replicate,List.take_of_length_le (by simp[row])]
    exact hVR.mono hext (by omega),hone,fun p=>by
    cases hk:K.S w.heap.size p with
    | none=>exact hk
    | some v=>have:=hR.lt hk;omega⟩⟩
 refine⟨.slice (some ⟨w.heap.size,0,none⟩) n n,K',_,?_,.vec _ _ _ n (by omega) (Nat.le_refl _) (by rw[hK',if_pos rfl]) (.inr ⟨_,_,rfl⟩),r1,r2⟩
 have hby':(ti.bytes:Int)*l≤4096*1048576:=Int.mul_le_mul (by omega) h1 h0 (by decide)
 have hnn:¬(281474976710656<(ti.bytes:Int)*l):=by omega
 have hl0:¬l<0:=by omega
 by_cases hn0:n*(ty e).sz=0
 ·have hn1:n=0:=by
   rcases Nat.eq_zero_or_pos n with h | h
   ·exact h
   ·have:=Nat.mul_pos h hpos;omega
  have hrow0:row= #[]:=by
   apply Array.eq_empty_of_size_eq_zero
   rw[hrow,hn0]
  rw[hrow0]
  simp[Instr.makeSlice,asInt,asIntOf,hu0 w,hir,hw,hl0,hnn,hn,aY hT (aT hag),newRow,hn1]
  congr 2
  apply Array.eq_empty_of_size_eq_zero
  simp
 ·simp[Instr.makeSlice,asInt,asIntOf,hu0 w,hir,hw,hl0,hnn,hn,aY hT (aT hag),newRow,hn0,hzr,row]
theorem EX(hT:b9 P ty){σ σ':List aa}{w:World}(hR:R K σ w){t0 t1 e e':Nat}{ats:Array TypeId}(ht0:ats[0]? = some t0)(ht1:ats[1]? = some t1)(hk0:(ty t0).kd= .slice e)(hk1:(ty t1).kd= .slice e')
  {t':Tok} {r len sz':Nat} {ys:List AV} {c1 c2:Value} {v:AV} (hv1:VR K σ.length (.vec r len) c1) (hv2:VR K σ.length (.list t' sz' ys) c2) (h:CV (ty e) σ r len sz' ys=some (v,σ')) (type:TypeId) :
  ∃c K' w',(Builtin.append_ ats type #[c1,c2]).run P w= .ok c w'∧VR K' σ'.length v c∧R K' σ' w'∧Step K σ w K' σ' w':=by
 unfold CV at h
 split at h
 case h_2=>cases h
 rename_i sz xs hg
 split at h
 case isFalse=>cases h
 rename_i hc
 obtain⟨hag,hpos,hby,hzl,rfl,hsz',rfl,hbound⟩:=hc
 simp only[Option.some.injEq,Prod.mk.injEq] at h
 obtain⟨rfl,rfl⟩:=h
 obtain⟨a2,cap2,cc2,rfl,hcap2,_,hs2,hvr2,h2,ha2⟩:=hv2.ll
 have hs2':∀i (h:i<ys.length),(ys[i]).cells.length=(ty e).sz:=fun i hi=>by
  rcases hsz' with e | e
  ·rw[← e];exact hs2 i hi
  ·subst e;simp at hi
 have hl2:cc2.length=ys.length*(ty e).sz:=by rw[← hvr2.1,bB _ ys hs2']
 have hO:=hR.obj r _ hg
 have hr:=aN hg
 obtain⟨a,cap,cc,h1,hcap,hl1,hvr1,hone,hrow⟩:=BL hO
 cases hv1 with
 | vec _ _ a' cap' _ hlc ht ha=>
 rw[h1] at ht;simp only[Option.some.injEq,Prod.mk.injEq] at ht
 obtain⟨rfl,rfl⟩:=ht
 obtain⟨a'',cap'',k1,_,hnew,hs1,hblk⟩:=hO
 rw[h1] at k1;simp only[Option.some.injEq,Prod.mk.injEq] at k1
 obtain⟨rfl,rfl⟩:=k1
 have hsl:∀o,(ax σ r o).length=σ.length:=fun o=>by simp[ax]
 have hfc2:=cQ (P:=P) (w:=w) hR (a:=a2) (len:=ys.length) (cap:=cap2) hl2 (fun hx=>ha2 (dR hx))
 by_cases hyn:ys=[]
 ·subst hyn
  have hσ:ax σ r (.vec (ty e).sz (xs++[]))=σ:=by rw[List.append_nil];exact DF hg
  have hc0:cc2=[]:=List.eq_nil_of_length_eq_zero (by rw[hl2];simp)
  rw[hσ]
  refine⟨_,K,w,mD hT ht0 ht1 hk0 hk1 hag type (by simpa using hcap) hfc2 (fun b _=>by subst hc0;rfl) (fun _=>rfl),?_,hR,.refl _ _ _⟩
  exact .vec r _ a cap hr (by simpa using hcap) (by simpa using h1) (by simpa using ha)
 have hyl:0<ys.length:=List.length_pos_iff.2 hyn
 have hall:=DT hs1 hs2'
 by_cases hle:xs.length+ys.length≤cap
 ·obtain⟨b,o,cells,E,rfl,g2,g3,g4,g5,g6⟩:=hblk (by omega)
  have hle2:(xs.length+ys.length)*(ty e).sz≤cap*(ty e).sz:=Nat.mul_le_mul_right _ hle
  rw[Nat.add_mul] at hle2
  have hst:=run_storeCells_at P b (o+xs.length*(ty e).sz) E cc2 0 cells w g2 (by omega) h2
  simp only[Nat.add_zero] at hst
  let K':Kr:={K with tl:=fun q k=>if q=r∧k=xs.length+ys.length then some (some ⟨b,o,none⟩,cap) else K.tl q k}
  have hext:Ext σ.length K K':=⟨fun _ _=>rfl,fun q hq k x hx=>by
   show(if q=r∧k=xs.length+ys.length then _ else _)=_
   by_cases e:q=r∧k=xs.length+ys.length
   ·obtain⟨e1,e2⟩:=e
    rw[e1,e2,hnew _ (by omega)] at hx;cases hx
   ·rw[if_neg e];exact hx,fun _ _ _ h=>h⟩
  have hK':K'.tl r (xs++ys).length=some (some ⟨b,o,none⟩,cap):=if_pos ⟨rfl,by simp⟩
  obtain⟨r1,r2⟩:=hR.fP (w':=w.setRow b (cells.toList.take (o+xs.length*(ty e).sz)++cc2++cells.toList.drop (o+xs.length*(ty e).sz+cc2.length)).toArray) hg b ⟨_,cap,h1,by omega,rfl⟩ K' hext
   (o':= .vec (ty e).sz (xs++ys))
   (fun q hq=>by funext k;show(if q=r∧k=_ then _ else _)=_;rw[if_neg (fun h=>hq h.1)])
   (fun b' hb=>setRow_other w _ _ _ hb) (setRow_size _ _ _) (fun _ _ _=>rfl) (fun p v hv=>by rw[show K'.S b p=K.S b p from rfl,g6 p] at hv;cases hv)
   (fun b' hb=>by
    obtain⟨a',cap',k1,k2,rfl⟩:=hb
    rw[hK'] at k1;simp at k1;rw[← k1.1])
   ⟨some ⟨b,o,none⟩,cap,hK',by simpa using hle,fun k hk=>by
     simp only[List.length_append] at hk
     show(if r=r∧k=_ then _ else _)=_
     rw[if_neg (by omega)];exact hnew k (by omega),hall,fun _=>⟨b,o,_,E,rfl,setRow_heap w b cells _ E (0,0) g2,by
     simp only[List.size_toArray,List.length_append,List.length_take,List.length_drop,Array.length_toList];omega,by
     have hnew2:((cells.toList.take (o+xs.length*(ty e).sz)++cc2++cells.toList.drop (o+xs.length*(ty e).sz+cc2.length)).drop o).take ((xs++ys).length*(ty e).sz)=(cells.toList.drop o).take (xs.length*(ty e).sz)++cc2:=by
      have hsz2:cells.toList.length=cells.size:=by simp
      rw[List.length_append,Nat.add_mul,← hl2]
      apply List.ext_getElem?
      intro j
      simp only[List.getElem?_take,List.getElem?_drop,List.getElem?_append,List.length_append,List.length_take,List.length_drop,hsz2]
      grind
     simp only[]
     rw[hnew2,List.flatMap_append]
     exact(g4.append hvr2).mono hext (Nat.le_refl _),by
     intro x hx
     simp only[List.mem_append] at hx
     rcases hx with(hx | hx) | hx
     ·exact g5 x (List.mem_of_mem_take hx)
     ·exact h2 x hx
     ·exact g5 x (List.mem_of_mem_drop hx),g6⟩⟩
   rfl rfl rfl (by rw[setRow_heap w b cells _ E (0,0) g2,g2];rfl)
  refine⟨_,K',_,mD hT ht0 ht1 hk0 hk1 hag type hle hfc2 (fun b' hb=>by simp only[Option.some.injEq] at hb;subst hb;rw[cZ];exact hst) (fun h=>by cases h),?_,r1,r2⟩
  rw[hsl]
  exact .vec r _ _ cap hr hle (by simpa using hK') (.inr ⟨b,o,rfl⟩)
 ·obtain⟨nc,rest,d,hdd,g1,g2,g2',g3⟩:=qQ hT ht0 ht1 hk0 hk1 hag hby hzl type (a:=a) (a2:=a2) (cap2:=cap2) (cc:=cc) (cc2:=cc2) (w:=w) (l:=xs.length) (l2:=ys.length) (cap:=cap) (by omega) hbound
   (fun d=>me hl1 (fun hx=>by obtain⟨b,o,q1,q2⟩:=hrow hx;exact⟨b,o,q1,q2⟩))
   (fun d=>cQ (hR.drew d) hl2 (fun hx=>ha2 (dR hx)))
  let K':Kr:=K.cK r fun k=>if k=xs.length+ys.length then some (some ⟨w.heap.size,0,none⟩,nc) else K.tl r k
  have hext:Ext σ.length K K':=⟨fun _ _=>rfl,fun q hq k x hx=>by
   simp only[K',Kr.cK]
   by_cases e:q=r
   ·subst e
    rw[if_pos rfl]
    by_cases e2:k=xs.length+ys.length
    ·rw[e2,hnew _ (by omega)] at hx;cases hx
    ·rw[if_neg e2];exact hx
   ·rw[if_neg e];exact hx,fun _ _ _ h=>h⟩
  have hK':K'.tl r (xs++ys).length=some (some ⟨w.heap.size,0,none⟩,nc):=by simp only[K',Kr.cK,if_true];rw[if_pos (by simp)]
  have htot:(cc++cc2++rest).length=nc*(ty e).sz:=by
   simp only[List.length_append,g2]
   have:nc*(ty e).sz=xs.length*(ty e).sz+ys.length*(ty e).sz+(nc- (xs.length+ys.length))*(ty e).sz:=by rw[← Nat.add_mul,← Nat.add_mul];congr 1;omega
   omega
  obtain⟨r1,r2⟩:=(hR.drew d).newAt (σ':=ax σ r (.vec (ty e).sz (xs++ys))) r (.vec (ty e).sz (xs++ys)) (.cells (cc++cc2++rest).toArray e (0,0)) K' hext (by rw[hsl];exact Nat.le_refl _) (by rw[hsl];exact hr) (iE hr) (fun q o' hq hg=>jW hq hg)
   (fun q hq=>by simp only[K',Kr.cK];rw[if_neg hq]) (fun b p v hv=> .inl hv)
   (fun b hb=>by
    obtain⟨a',cap',k1,k2,rfl⟩:=hb
    rw[hK'] at k1;simp at k1;rw[← k1.1])
   ⟨_,nc,hK',by simpa using g1,fun k hk=>by
     simp only[List.length_append] at hk
     simp only[K',Kr.cK,if_true];rw[if_neg (by omega)];exact hnew k (by omega),hall,fun _=>⟨w.heap.size,0,_,e,rfl,heap_alloc_new _ _,by
     simp only[Nat.zero_add,List.size_toArray,htot];exact Nat.le_refl _,by
     simp only[List.drop_zero]
     have hl12:(xs++ys).length*(ty e).sz=(cc++cc2).length:=by simp only[List.length_append,Nat.add_mul,hl1,hl2]
     rw[hl12,List.take_left',List.flatMap_append]
     ·rw[hsl];exact(hvr1.append hvr2).mono hext (Nat.le_refl _)
     ·rfl,by
     intro x hx
     simp only[List.mem_append] at hx
     rcases hx with(hx | hx) | hx
     ·exact hone x hx
     ·exact h2 x hx
     ·exact g2' x hx,fun p=>by
     cases hk:K.S w.heap.size p with
     | none=>exact hk
     | some v=>have:=hR.lt hk;omega⟩⟩
  refine⟨_,K',_,g3,?_,r1,r2.drew d⟩
  rw[hsl]
  exact .vec r _ _ nc hr g1 (by simpa using hK') (.inr ⟨_,_,rfl⟩)
end Go.Mu
namespace Go.Mu
open Go
variable {P:Program}{K:Kr}{n:Nat}{ty:Nat→TI}
def sb(K:Kr)(n:Nat)(es:List (AV×AV))(es':List MapEntry):Prop:=
 es.length=es'.length∧∀i (h:i<es.length) (h':i<es'.length),VR K n (es[i]).1 (es'[i]).key∧VR K n (es[i]).2 (es'[i]).val
theorem tD(a b:ByteArray):(a==b)=true↔a=b:=by
 obtain⟨x⟩:=a
 obtain⟨y⟩:=b
 constructor
 ·intro h
  have e:x=y:=by simpa using(show(x==y)=true from h)
  rw[e]
 ·intro h
  cases h
  show(x==x)=true
  simp
theorem Hy{k:IntKind}{x:Int}{k':AV}{t:Bool}(h:eV (.int k x) k'=some t):∃y,k'= .int k y∧t=(x==y):=by
 unfold eV at h
 split at h
 ·rename_i e
  simp only[AV.int.injEq] at e
  obtain⟨rfl,rfl⟩:=e
  split at h
  ·rename_i e2;subst e2;simp at h;exact⟨_,rfl,h.symm⟩
  ·cases h
 all_goals (first | (cases h;done) | (rename_i e;cases e))
theorem Ht{x:ByteArray}{k':AV}{t:Bool}(h:eV (.str x) k'=some t):∃y,k'= .str y∧t=(x==y):=by
 unfold eV at h
 split at h
 ·rename_i e;cases e
 ·rename_i e
  simp only[AV.str.injEq] at e
  subst e
  simp only[Option.some.injEq] at h;exact⟨_,rfl,h.symm⟩
 ·rename_i e;cases e
 ·cases h
theorem Il{cs:List AV}{xs:List Int}{k':AV}{t:Bool}(hx:dT cs=some xs)(h:eV (.agg cs) k'=some t):∃cs2 ys,k'= .agg cs2∧dT cs2=some ys∧cs.length=cs2.length∧t=(xs==ys):=by
 unfold eV at h
 split at h
 ·rename_i e;cases e
 ·rename_i e;cases e
 ·rename_i a b e
  simp only[AV.agg.injEq] at e
  subst e
  rw[hx] at h
  cases hx2:dT b with
  | none=>rw[hx2] at h;cases h
  | some ys=>
   rw[hx2] at h
   simp only at h
   split at h
   ·rename_i e;simp only[Option.some.injEq] at h;exact⟨_,_,rfl,hx2,e,h.symm⟩
   ·cases h
 ·cases h
theorem wL{k:TK}(h:isInt k=true):∃kk,k= .int kk:=by cases k<;> simp[isInt] at h;exact⟨_,rfl⟩
theorem sP{k:TK}(h:uH k=true):k= .str:=by cases k<;> simp[uH] at h;rfl
theorem e9{w:World}{b:Nat}{es:Array MapEntry}{c:Nat}(h:w.heap[b]? = some (.map es c)):(getObj b).run P w= .ok (.map es c) w:=by
 simp[getObj,Sem.run,h]
theorem tE{w:World}{b:Nat}{es:Array MapEntry}{c:Nat}(o':Obj)(h:w.heap[b]? = some (.map es c)):(setObj b o').run P w= .ok () {w with heap:=w.heap.setIfInBounds b o'}:=by
 simp[setObj,Sem.run,h]
def qF(K:Kr)(n i:Nat)(c:Value)(es':List MapEntry):Option (Nat×AV)→Option (Nat×Value)→Prop
 | none,none=>True
 | some (j,v),some (j',v')=>j=j'∧i≤j∧j<i+es'.length∧VR K n v v'∧(es'[j-i]?).map (·.key)=some c
 | _,_=>False
theorem sb.tl{k' v:AV}{e:MapEntry}{es:List (AV×AV)}{es':List MapEntry}(h:sb K n ((k',v)::es) (e::es')):sb K n es es':=
 ⟨by have:=h.1;simp at this;exact this,fun j a b=>by
  have:=h.2 (j+1) (by simp;exact a) (by simp;exact b)
  simpa using this⟩
theorem qF.tl{i:Nat}{c:Value}{e:MapEntry}{es':List MapEntry}:∀{r:Option (Nat×AV)} {r':Option (Nat×Value)},qF K n (i+1) c es' r r'→qF K n i c (e::es') r r'
 | none,none,_=>trivial
 | some (j,v),some (j',v'),⟨a1,a2,a3,a4,a7⟩=>by
  refine⟨a1,by omega,by simp;omega,a4,?_⟩
  have:j-i=(j- (i+1))+1:=by omega
  rw[this];simpa using a7
theorem mL{d:TypeDesc}{key:AV}{c:Value}(hs:∀k' ck t,VR K n k' ck→eV key k'=some t→Instr.sameNow d c ck=some t∧(t=true→ck=c)):∀(es:List (AV×AV)) (es':List MapEntry) (i:Nat) (r:Option (Nat×AV)),sb K n es es'→bw key es i=some r→
  ∃r',Instr.findNow d c es' i=some r'∧qF K n i c es' r r'
 | [],es',i,r,hE,h=>by
  simp[bw] at h;subst h
  have:es'=[]:=List.length_eq_zero_iff.1 hE.1.symm
  subst this
  exact⟨none,rfl,trivial⟩
 | (k',v)::es,[],i,r,hE,h=>absurd hE.1 (by simp)
 | (k',v)::es,e::es',i,r,hE,h=>by
  simp only[bw] at h
  obtain⟨g1,g2⟩:=hE.2 0 (by simp) (by simp)
  simp only[List.getElem_cons_zero] at g1 g2
  cases hq:eV key k' with
  | none=>rw[hq] at h;cases h
  | some t=>
   rw[hq] at h
   obtain⟨q1,q2⟩:=hs _ _ _ g1 hq
   simp only[Instr.findNow,q1]
   cases t with
   | true=>
    simp at h;subst h
    exact⟨_,rfl,rfl,Nat.le_refl _,by simp,g2,by simp[q2 rfl]⟩
   | false=>
    simp only at h
    obtain⟨r',h1,h2⟩:=mL hs es es' (i+1) r hE.tl h
    exact⟨r',h1,h2.tl⟩
theorem q8{kt:TypeId}{key:AV}{c:Value}(hs:∀k' ck t w,VR K n k' ck→eV key k'=some t→(Op.equal kt c ck).run P w= .ok t w∧(t=true→ck=c))(w:World):∀(es:List (AV×AV)) (es':List MapEntry) (i:Nat) (r:Option (Nat×AV)),sb K n es es'→bw key es i=some r→
  ∃r',(Instr.findAsking kt c es' i).run P w= .ok r' w∧qF K n i c es' r r'
 | [],es',i,r,hE,h=>by
  simp[bw] at h;subst h
  have:es'=[]:=List.length_eq_zero_iff.1 hE.1.symm
  subst this
  exact⟨none,by simp[Instr.findAsking],trivial⟩
 | (k',v)::es,[],i,r,hE,h=>absurd hE.1 (by simp)
 | (k',v)::es,e::es',i,r,hE,h=>by
  simp only[bw] at h
  obtain⟨g1,g2⟩:=hE.2 0 (by simp) (by simp)
  simp only[List.getElem_cons_zero] at g1 g2
  cases hq:eV key k' with
  | none=>rw[hq] at h;cases h
  | some t=>
   rw[hq] at h
   obtain⟨q1,q2⟩:=hs _ _ _ w g1 hq
   simp only[Instr.findAsking,Sem.run_bind,q1,Result.andThen_ok]
   cases t with
   | true=>
    simp at h;subst h
    exact⟨_,rfl,rfl,Nat.le_refl _,by simp,g2,by simp[q2 rfl]⟩
   | false=>
    simp only at h
    obtain⟨r',h1,h2⟩:=q8 hs w es es' (i+1) r hE.tl h
    exact⟨r',by simpa using h1,h2.tl⟩
theorem mr{i:TI}{cs:List AV}(h:fU i (.agg cs)=true):i.keyn=true∧cs.length=i.sz∧∃xs,dT cs=some xs:=by
 simp only[fU,Bool.and_eq_true,beq_iff_eq,Option.isSome_iff_exists] at h
 exact h
theorem xm{cs:List AV}{xs:List Int}{c:Value}(hx:dT cs=some xs)(hv:VR K n (.agg cs) c):c= .agg (xs.map (.int .i64)).toArray∧xs.length=cs.length:=by
 cases hv with
 | agg _ cs' hl h1 h=>
  have:=ep hx ⟨hl,h⟩
  subst this
  exact⟨rfl,by simpa using hl.symm⟩
theorem oR(hT:b9 P ty)(hQ:oN P ty){kt:TypeId}{key:AV}{c:Value}(hk:fU (ty kt) key=true)(hv:VR K n key c){es:List (AV×AV)}{es':List MapEntry}{r:Option (Nat×AV)}(hE:sb K n es es')(h:bw key es 0=some r)(w:World) :
  ∃r',(Instr.findKey kt c es').run P w= .ok r' w∧qF K n 0 c es' r r':=by
 cases key with
 | int k x=>
  obtain⟨kk,hkk⟩:=wL hk
  obtain⟨d2,hd2,hu2⟩:=aL hT (t:=kt) (by rw[hkk];simp)
  rw[hkk] at hd2;simp only[bV] at hd2;subst hd2
  cases hv
  obtain⟨r',g1,g2⟩:=mL (K:=K) (n:=n) (d:= .int kk) (key:= .int k x) (c:= .int k x) (fun k' ck t hvk hq=>by
   obtain⟨y,rfl,rfl⟩:=Hy hq
   cases hvk
   exact⟨by simp[Instr.sameNow],fun h=>by simp at h;rw[h]⟩) es es' 0 r hE h
  exact⟨r',by simp only[Instr.findKey,Sem.run_bind,hu2 w,Result.andThen_ok,g1,Sem.run_pure],g2⟩
 | str x=>
  have hkk:=sP hk
  obtain⟨d2,hd2,hu2⟩:=aL hT (t:=kt) (by rw[hkk];simp)
  rw[hkk] at hd2;simp only[bV] at hd2;subst hd2
  cases hv
  obtain⟨r',g1,g2⟩:=mL (K:=K) (n:=n) (d:= .string) (key:= .str x) (c:= .string x) (fun k' ck t hvk hq=>by
   obtain⟨y,rfl,rfl⟩:=Ht hq
   cases hvk
   exact⟨by simp only[Instr.sameNow],fun h=>by rw[(tD x y).1 h]⟩) es es' 0 r hE h
  exact⟨r',by simp only[Instr.findKey,Sem.run_bind,hu2 w,Result.andThen_ok,g1,Sem.run_pure],g2⟩
 | agg cs=>
  obtain⟨hn,hl,xs,hx⟩:=mr hk
  obtain⟨d2,hd2,hu2⟩:=aL hT (hQ.kkd kt hn)
  obtain⟨rfl,hxl⟩:=xm hx hv
  obtain⟨r',g1,g2⟩:=q8 (P:=P) (K:=K) (n:=n) (kt:=kt) (key:= .agg cs) (c:= .agg (xs.map (.int .i64)).toArray) (fun k' ck t w hvk hq=>by
   obtain⟨cs2,ys,rfl,hx2,e,rfl⟩:=Il hx hq
   obtain⟨rfl,hyl⟩:=xm hx2 hvk
   exact⟨hQ.keq kt hn xs ys w (by omega) (by omega),fun h=>by simp at h;rw[h]⟩) w es es' 0 r hE h
  refine⟨r',?_,g2⟩
  have hfn:Instr.findNow d2 (.agg (xs.map (.int .i64)).toArray) es' 0=some r'∨Instr.findNow d2 (.agg (xs.map (.int .i64)).toArray) es' 0=none:=by
   cases es' with
   | nil=>
    simp[Instr.findAsking] at g1
    exact .inl (by simp[Instr.findNow,g1])
   | cons e es'=>right;cases d2<;> simp[Instr.findNow,Instr.sameNow]
  rcases hfn with hfn | hfn
  ·simp only[Instr.findKey,Sem.run_bind,hu2 w,Result.andThen_ok,hfn,Sem.run_pure]
  ·simp only[Instr.findKey,Sem.run_bind,hu2 w,Result.andThen_ok,hfn,g1]
 | _=>simp[fU] at hk
theorem mV(hT:b9 P ty)(hQ:oN P ty){kt:TypeId}{key:AV}{c:Value}(hk:fU (ty kt) key=true)(hv:VR K n key c)(e:Bool)(w:World):(Instr.checkKey e 10000 kt c).run P w= .ok () w:=by
 have one:∀(m:Nat) (d:TypeDesc),0<m→(∀w,(underlying kt).run P w= .ok d w)→(∃kk,d= .int kk)∨d= .string→(∀x,c≠ .agg x)→(Instr.checkKey e m kt c).run P w= .ok () w:=by
  intro m d hm hu hd hc
  cases m with
  | zero=>omega
  | succ m=>rcases hd with⟨kk,rfl⟩ | rfl<;> simp only[Instr.checkKey,Sem.run_bind,hu w,Result.andThen_ok,Sem.run_pure]
 cases key with
 | int k x=>
  obtain⟨kk,hkk⟩:=wL hk
  obtain⟨d2,hd2,hu2⟩:=aL hT (t:=kt) (by rw[hkk];simp)
  rw[hkk] at hd2;simp only[bV] at hd2;subst hd2
  cases hv
  exact one _ _ (by omega) hu2 (.inl ⟨_,rfl⟩) (by simp)
 | str x=>
  have hkk:=sP hk
  obtain⟨d2,hd2,hu2⟩:=aL hT (t:=kt) (by rw[hkk];simp)
  rw[hkk] at hd2;simp only[bV] at hd2;subst hd2
  cases hv
  exact one _ _ (by omega) hu2 (.inr rfl) (by simp)
 | agg cs=>
  obtain⟨hn,hl,xs,hx⟩:=mr hk
  obtain⟨rfl,hxl⟩:=xm hx hv
  exact hQ.kck kt hn e xs w (by omega)
 | _=>simp[fU] at hk
theorem xb(m:Nat)(xs:List Int):Instr.sameBits (m+2) (.agg (xs.map (.int .i64)).toArray) (.agg (xs.map (.int .i64)).toArray)=true:=by
 simp only[Instr.sameBits,beq_self_eq_true,Bool.true_and,List.all_eq_true]
 rintro⟨a,b⟩ h
 have:a=b∧∃x,a= .int .i64 x:=by
  simp only[List.zip_map',List.mem_map,Prod.mk.injEq] at h
  obtain⟨x,_,rfl,rfl⟩:=h
  exact⟨rfl,x,rfl⟩
 obtain⟨rfl,x,rfl⟩:=this
 simp[Instr.sameBits]
theorem vl{i:TI}{key:AV}{c:Value}(hk:fU i key=true)(hv:VR K n key c)(w:World):(Instr.keyThatStays c c).run P w= .ok c w:=by
 have hs:Instr.sameBits 10000 c c=true:=by
  cases key with
  | int k x=>cases hv;simp[Instr.sameBits]
  | str x=>cases hv;simp only[Instr.sameBits];exact(tD x x).2 rfl
  | agg cs=>
   obtain⟨_,_,xs,hx⟩:=mr hk
   obtain⟨rfl,_⟩:=xm hx hv
   exact xb 9998 xs
  | _=>simp[fU] at hk
 simp[Instr.keyThatStays,hs]
theorem Jr.toL{es:List (AV×AV)}{es':Array MapEntry}{clock:Nat}(h:Jr K n es es' clock):sb K n es es'.toList:=
 ⟨by rw[h.1];simp,fun i a b=>by
  obtain⟨h1,h2,_⟩:=h.2.2 i a (by simpa using b)
  exact⟨by simpa using h1,by simpa using h2⟩⟩
theorem qX{w:World}{b p:Nat}{es:Array MapEntry}{c:Nat}(h:w.heap[b]? = some (.map es c)):w.cell? ⟨b,p,none⟩= none:=by simp[World.cell?,h]
theorem yn{w:World}{b p:Nat}{m:Option Nat}{x:Array Nat}{c d:Nat}(h:w.heap[b]? = some (.mapIter m c x d)):w.cell? ⟨b,p,none⟩= none:=by simp[World.cell?,h]
theorem R.oA{σ:List aa}{w:World}(hR:R K σ w){r:Nat}{o:aa}(hg:ai σ r=some o)(hb:cC K r o (K.φ r))(hc:∀p,w.cell? ⟨K.φ r,p,none⟩= none)(hlt:K.φ r<w.heap.size)(o':aa)(co:Obj)(hB:∀b,cC K r o' b→b=K.φ r)
  (hz:frz w.heap[K.φ r]? = frz (some co)) (hO:∀w':World,w'.heap[K.φ r]? = some co→eF K σ.length w' r o') :
  R K (ax σ r o') {w with heap:=w.heap.setIfInBounds (K.φ r) co}∧Step K σ w K (ax σ r o') {w with heap:=w.heap.setIfInBounds (K.φ r) co}:=by
 have hS:∀p,K.S (K.φ r) p=none:=fun p=>by
  cases hk:K.S (K.φ r) p with
  | none=>rfl
  | some v=>have:=hR.stab _ _ _ hk;rw[hc p] at this;cases this
 refine hR.fP hg (K.φ r) hb K (.refl _ _) (fun _ _=>rfl) (fun b hb=>?_) (by simp) (fun _ _ _=>rfl) (fun p v hv=>by rw[hS p] at hv;cases hv) hB (hO _ ?_) rfl rfl rfl (by
  show frz (w.heap.setIfInBounds (K.φ r) _)[K.φ r]? = _
  rw[Array.getElem?_setIfInBounds_self,if_pos hlt,hz])
 ·show(w.heap.setIfInBounds (K.φ r) _)[b]? = _
  rw[Array.getElem?_setIfInBounds_ne (Ne.symm hb)]
 ·show(w.heap.setIfInBounds (K.φ r) _)[K.φ r]? = _
  simp[hlt]
theorem w7{σ:List aa}{w:World}(hR:R K σ w){t:TypeId} :
  ∃c K' w',(Instr.makeMap t none).run P w= .ok c w'∧VR K' (σ.length+1) (.map σ.length) c∧R K' (σ++[.map []]) w'∧Step K σ w K' (σ++[.map []]) w':=by
 obtain⟨r1,r2⟩:=hR.new (.map []) (.map #[] 0) (K.setφ σ.length w.heap.size) (Ext.setφ K _ _) (fun _ _=>rfl) (fun b p v hv=> .inl hv) (fun b hb=>by
  have:b=(K.setφ σ.length w.heap.size).φ σ.length:=hb
  simpa only[Kr.setφ,if_true] using this) ⟨#[],0,by simp only[Kr.setφ,if_true];exact heap_alloc_new w _,rfl,rfl,fun i h=>by simp at h⟩
 refine⟨.map (some w.heap.size),_,_,?_,?_,r1,r2⟩
 ·simp only[Instr.makeMap,Sem.run_bind,Result.andThen_ok,Sem.run_pure];rfl
 ·have:=VR.map (K:=K.setφ σ.length w.heap.size) (n:=σ.length+1) σ.length (by omega)
  simpa[Kr.setφ] using this
theorem xK(hT:b9 P ty)(hQ:oN P ty){σ:List aa}{w:World}(hR:R K σ w){t kt et r:Nat}{es:List (AV×AV)}(hk:(ty t).kd= .map kt et){key:AV}(hi:fU (ty kt) key=true)(he:(ty et).kd≠ .other)(hg:ai σ r=some (.map es)){c:Value}(hv:VR K σ.length key c){ok:Bool}{v:AV}{σ':List aa}
  (h:gy ok (ty et).zero σ (bw key es 0)=some (v,σ')):∃c',(Instr.lookup t (.map (some (K.φ r))) c ok).run P w= .ok c' w∧VR K σ.length v c'∧σ'=σ:=by
 obtain⟨d,hd,hu⟩:=aL hT (t:=t) (by rw[hk];simp)
 rw[hk] at hd
 simp only[bV] at hd
 subst hd
 obtain⟨z,hz,hzr⟩:=fl (K:=K) (n:=σ.length) hT he
 obtain⟨es',clock,h1,h2⟩:=hR.obj r _ hg
 cases hf:bw key es 0 with
 | none=>rw[hf] at h;cases h
 | some q=>
  rw[hf] at h
  obtain⟨r',g1,g2⟩:=oR hT hQ hi hv h2.toL hf w
  have hck:=mV hT hQ hi hv es'.isEmpty w
  match q,r',g2 with
  | none,none,_=>
   simp only[gy,Option.some.injEq,Prod.mk.injEq] at h
   obtain⟨rfl,rfl⟩:=h
   refine⟨if ok then .tuple #[z,.bool false] else z,?_,?_,rfl⟩
   ·simp only[Instr.lookup,Sem.run_bind,hu w,Result.andThen_ok,e9 h1,Sem.run_pure,hck,g1,hzr w]
   ·cases ok
    ·exact hz
    ·exact VRs.tup (cs:=#[z,.bool false]) (.cons hz (.cons (.bool _) .nil))
  | some (j,v0),some (j',v'),⟨_,_,_,a4,_⟩=>
   simp only[gy,Option.some.injEq,Prod.mk.injEq] at h
   obtain⟨rfl,rfl⟩:=h
   refine⟨if ok then .tuple #[v',.bool true] else v',?_,?_,rfl⟩
   ·simp only[Instr.lookup,Sem.run_bind,hu w,Result.andThen_ok,e9 h1,Sem.run_pure,hck,g1]
   ·cases ok
    ·exact a4
    ·exact VRs.tup (cs:=#[v',.bool true]) (.cons a4 (.cons (.bool _) .nil))
theorem z1(hT:b9 P ty)(hQ:oN P ty){σ:List aa}{w:World}(hR:R K σ w){t kt et r:Nat}{es:List (AV×AV)}(hk:(ty t).kd= .map kt et){key v:AV}(hi:fU (ty kt) key=true)(hg:ai σ r=some (.map es)){c cv:Value}(hv:VR K σ.length key c)(hvv:VR K σ.length v cv){u:AV}{σ':List aa}
  (h:fL r es key v σ (bw key es 0)=some (u,σ')):∃w',(Instr.mapUpdate t (.map (some (K.φ r))) c cv).run P w= .ok () w'∧u= .tup []∧R K σ' w'∧Step K σ w K σ' w':=by
 obtain⟨d,hd,hu⟩:=aL hT (t:=t) (by rw[hk];simp)
 rw[hk] at hd
 simp only[bV] at hd
 subst hd
 obtain⟨es',clock,h1,h2⟩:=hR.obj r _ hg
 have hlt:=bJ h1
 cases hf:bw key es 0 with
 | none=>rw[hf] at h;cases h
 | some q=>
  rw[hf] at h
  obtain⟨r',g1,g2⟩:=oR hT hQ hi hv h2.toL hf w
  have hck:=mV hT hQ hi hv false w
  match q,r',g2 with
  | none,none,_=>
   simp only[fL,Option.some.injEq,Prod.mk.injEq] at h
   obtain⟨rfl,rfl⟩:=h
   obtain⟨r1,r2⟩:=hR.oA hg rfl (fun p=>qX h1) hlt (.map (es++[(key,v)])) (.map (es'.push {key:=c,val:=cv,born:=clock}) (clock+1)) (fun b hb=>hb) (by rw[h1];rfl) (fun w' hw'=>⟨_,_,hw',by simp[h2.1],by simp[h2.2.1],fun i a b=>by
    have hb:i<es'.size+1:=by simpa using b
    by_cases e:i<es'.size
    ·have e':i<es.length:=by rw[h2.1];exact e
     rw[List.getElem_append_left e',Array.getElem_push_lt e]
     exact h2.2.2 i e' e
    ·have e1:i=es.length:=by rw[h2.1];omega
     subst e1
     have e2:(es++[(key,v)])[es.length]=(key,v):=by simp
     have e3:(es'.push {key:=c,val:=cv,born:=clock})[es.length]= {key:=c,val:=cv,born:=clock}:=by
      have:=h2.1
      simp[this]
     rw[e2,e3]
     exact⟨hv,hvv,by rw[h2.2.1,h2.1]⟩⟩)
   refine⟨_,?_,rfl,r1,r2⟩
   simp only[Instr.mapUpdate,Sem.run_bind,hu w,Result.andThen_ok,e9 h1,hck,g1,tE _ h1]
  | some (j,v0),some (j',v'),⟨a1,_,a3,a4,a7⟩=>
   simp only[fL,Option.some.injEq,Prod.mk.injEq] at h
   obtain⟨rfl,rfl⟩:=h
   subst a1
   simp at a3
   have hj:j<es.length:=by rw[h2.1];exact a3
   have a7':(es'[j]?).map (·.key)=some c:=by simpa using a7
   have hst:(Instr.keyThatStays (((es'[j]?).map (·.key)).getD c) c).run P w= .ok c w:=by
    rw[a7']
    exact vl hi hv w
   obtain⟨r1,r2⟩:=hR.oA hg rfl (fun p=>qX h1) hlt (.map (es.set j (key,v))) (.map (es'.modify j fun e=>{e with key:=c,val:=cv}) clock) (fun b hb=>hb) (by rw[h1];rfl) (fun w' hw'=>⟨_,_,hw',by simp[h2.1],by simp[h2.2.1],fun i a b=>by
    have hi1:i<es.length:=by simpa using a
    have hi2:i<es'.size:=by simpa using b
    rw[List.getElem_set,Array.getElem_modify]
    by_cases e:j=i
    ·subst e;simp only[if_true]
     exact⟨hv,hvv,(h2.2.2 j hi1 hi2).2.2⟩
    ·simp only[if_neg e]
     exact h2.2.2 i hi1 hi2⟩)
   refine⟨_,?_,rfl,r1,r2⟩
   simp only[Instr.mapUpdate,Sem.run_bind,hu w,Result.andThen_ok,e9 h1,hck,g1,hst,tE _ h1]
theorem BE(hT:b9 P ty){σ:List aa}{w:World}(hR:R K σ w){t kt et r:Nat}{es:List (AV×AV)}(hk:(ty t).kd= .map kt et)(hg:ai σ r=some (.map es)) :
  ∃c K' w',(Instr.range t (.map (some (K.φ r)))).run P w= .ok c w'∧VR K' (σ.length+1) (.ptr σ.length 0) c∧R K' (σ++[.iter (some r) es.length []]) w'∧Step K σ w K' (σ++[.iter (some r) es.length []]) w':=by
 obtain⟨d,hd,hu⟩:=aL hT (t:=t) (by rw[hk];simp)
 rw[hk] at hd
 simp only[bV] at hd
 subst hd
 obtain⟨es',clock,h1,h2⟩:=hR.obj r _ hg
 have hr:=aN hg
 have hcl:clock=es.length:=by rw[h2.2.1,h2.1]
 subst hcl
 obtain⟨r1,r2⟩:=hR.new (.iter (some r) es.length []) (.mapIter (some (K.φ r)) es.length #[] es.length) (K.setφ σ.length w.heap.size) (Ext.setφ K _ _) (fun _ _=>rfl) (fun b p v hv=> .inl hv) (fun b hb=>by
  have:b=(K.setφ σ.length w.heap.size).φ σ.length:=hb
  simpa only[Kr.setφ,if_true] using this) ⟨some (K.φ r),by simp only[Kr.setφ,if_true];exact heap_alloc_new w _,by omega,by simp only[Kr.setφ];rw[if_neg (by omega)]⟩
 refine⟨.pointer (some ⟨w.heap.size,0,none⟩),_,_,?_,?_,r1,r2⟩
 ·simp only[Instr.range,Sem.run_bind,hu w,Result.andThen_ok,e9 h1,Sem.run_pure];rfl
 ·have:=VR.ptr (K:=K.setφ σ.length w.heap.size) (n:=σ.length+1) σ.length 0 (by omega)
  simpa[Kr.setφ] using this
def iF(X:AV→List aa→Prop)(σ:List aa):Option AV→Prop
 | some (.ptr r 0)=>match ai σ r with
  | some (.iter (some q) c seen)=>match ai σ q with
   | some (.map es)=>c=es.length∧(∀i k v,es[i]? = some (k,v)→i∉seen→X (.tup [.bool true,k,v]) (ax σ r (.iter (some q) c (seen++[i]))))∧((∀i,i<es.length→i∈seen)→X (.tup [.bool false]) σ)
   | _=>False
  | _=>False
 | _=>False
theorem filter_all{α:Type}{p:α→Bool}{xs:Array α}(h:∀i (h:i<xs.size),p xs[i]=true):xs.filter p=xs:=by
 rw[Array.filter_eq_self]
 intro a ha
 obtain⟨i,hi,rfl⟩:=Array.mem_iff_getElem.1 ha
 exact h i hi
theorem filter_none{α:Type}{p:α→Bool}{xs:Array α}(h:∀i (h:i<xs.size),p xs[i]=false):xs.filter p= #[]:=by
 rw[Array.filter_eq_empty_iff]
 intro a ha
 obtain⟨i,hi,rfl⟩:=Array.mem_iff_getElem.1 ha
 simp[h i hi]
theorem q9{w:World}{b:Nat}{m:Option Nat}{c d:Nat}{s:Array Nat}(h:w.heap[b]? = some (.mapIter m c s d)):(getObj b).run P w= .ok (.mapIter m c s d) w:=by
 simp[getObj,Sem.run,h]
theorem Ar{w:World}{b:Nat}{m:Option Nat}{c d:Nat}{s:Array Nat}(o':Obj)(h:w.heap[b]? = some (.mapIter m c s d)):(setObj b o').run P w= .ok () {w with heap:=w.heap.setIfInBounds b o'}:=by
 simp[setObj,Sem.run,h]
theorem yV{σ:List aa}{r:Nat}{o:aa}:(ax σ r o).length=σ.length:=by unfold ax;simp
theorem wX{σ:List aa}{w:World}(hR:R K σ w){a:AV}{ca:Value}(ha:VR K σ.length a ca){T:TypeId}{X:AV→List aa→Prop}(hX:iF X σ (some a)) :
  ∃v σ' c' w',(Instr.next ca false T).run P w= .ok c' w'∧X v σ'∧VR K σ'.length v c'∧R K σ' w'∧Step K σ w K σ' w':=by
 unfold iF at hX
 split at hX
 ·rename_i r he
  simp at he;subst he
  split at hX
  ·rename_i q c seen hg
   split at hX
   ·rename_i es hq
    obtain⟨hc,h1,h2⟩:=hX
    subst hc
    obtain⟨hr,rfl⟩:=ha.gl
    obtain⟨m',g1,g2⟩:=hR.obj r _ hg
    obtain⟨g3,rfl⟩:=g2
    obtain⟨es',clock,k1,k2⟩:=hR.obj q _ hq
    have hcl:clock=es.length:=by rw[k2.2.1,k2.1]
    subst hcl
    have hsz:es'.size=es.length:=k2.1.symm
    have hborn:∀i (h:i<es'.size),(es'[i]).born=i:=fun i h=>(k2.2.2 i (by omega) h).2.2
    let L:=es'.filter fun e=> !seen.toArray.contains e.born
    have hLmem:∀i (h:i<L.size),∃j,∃hj:j<es'.size,L[i]=es'[j]∧j∉seen:=fun i h=>by
     have hm:L[i]∈L:=Array.getElem_mem h
     obtain⟨hm1,hm2⟩:=Array.mem_filter.1 hm
     obtain⟨j,hj,e⟩:=Array.mem_iff_getElem.1 hm1
     refine⟨j,hj,e.symm,fun hs=>?_⟩
     rw[← e,hborn j hj] at hm2
     simp[hs] at hm2
    have hold:L.filter (fun e=>decide (e.born<es.length))=L:=filter_all fun i h=>by
     obtain⟨j,hj,e,_⟩:=hLmem i h
     rw[e,hborn j hj];simp;omega
    have hnew:L.filter (fun e=>decide (e.born≥es.length))= #[]:=filter_none fun i h=>by
     obtain⟨j,hj,e,_⟩:=hLmem i h
     rw[e,hborn j hj];simp;omega
    have hguard:(!seen.toArray.isEmpty&& !es'.isEmpty&&es'.all (fun e=>decide (e.born≥es.length)))=false:=by
     by_cases hz:es'.size=0
     ·have:es'= #[]:=Array.eq_empty_of_size_eq_zero hz
      subst this;simp
     ·have h0:0<es'.size:=by omega
      have:es'.all (fun e=>decide (e.born≥es.length))=false:=by
       rw[Array.all_eq_false]
       refine⟨0,h0,?_⟩
       rw[hborn 0 h0,decide_eq_true_eq];omega
      rw[this];simp
    have hrun0:(Instr.next (.pointer (some ⟨K.φ r,0,none⟩)) false T).run P w=((choose (.mapNext ((if L.isEmpty then #[none] else #[])++L.map some).size)).run P w).andThen fun n w1=>(match ((if L.isEmpty then #[none] else #[])++L.map some)[n]? with
      | some (some e)=>(do setObj (K.φ r) (.mapIter (some (K.φ q)) es.length (seen.toArray.push e.born) es.length);pure (.tuple #[.bool true,e.key,e.val]):Sem Value)
      | some none=>pure (.tuple #[.bool false])
      | none=>stuck "Next: no such candidate").run P w1:=by
     have hL1:(es'.filter fun e=> !seen.toArray.contains e.born).filter (fun e=>decide (e.born<es.length))=L:=hold
     have hL2:(es'.filter fun e=> !seen.toArray.contains e.born).filter (fun e=>decide (e.born≥es.length))= #[]:=hnew
     simp only[Instr.next,Sem.run_bind,q9 g1,Result.andThen_ok,e9 k1,hguard,Bool.false_eq_true,if_false,hL1,hL2,Array.append_empty]
     rfl
    by_cases hem:L.isEmpty
    ·refine⟨.tup [.bool false],σ,.tuple #[.bool false],w,?_,h2 fun i hi=>?_,VRs.tup (cs:=#[.bool false]) (.cons (.bool _) .nil),hR,.refl _ _ _⟩
     ·rw[hrun0]
      have:L= #[]:=by simpa using hem
      rw[this]
      simp[run_choose,Question.forced]
     ·have:L= #[]:=by simpa using hem
      apply Classical.byContradiction
      intro hs
      have hm:es'[i]'(by omega)∈L:=Array.mem_filter.2 ⟨Array.getElem_mem _,by rw[hborn i (by omega)];simp[hs]⟩
      rw[this] at hm;simp at hm
    ·have hpos:0<L.size:=by
      cases hz:L.size with
      | zero=>exact absurd (by simpa using hz) hem
      | succ k=>omega
     have hch:∃m,m<L.size∧∃d,w.drawn≤d∧(choose (.mapNext ((if L.isEmpty then #[none] else #[])++L.map some).size)).run P w= .ok m {w with drawn:=d}:=by
      have hs:((if L.isEmpty then #[none] else #[])++L.map some).size=L.size:=by simp[hem]
      rw[hs]
      by_cases hf:L.size≤1
      ·exact⟨0,hpos,w.drawn,Nat.le_refl _,by simp[run_choose,Question.forced,hf]⟩
      ·refine⟨w.tape w.drawn (.mapNext L.size)%L.size,Nat.mod_lt _ hpos,w.drawn+1,Nat.le_add_right _ _,?_⟩
       simp[run_choose,Question.forced,hf,Question.cut]
     obtain⟨m,hm,d,hdd,hch⟩:=hch
     obtain⟨j,hj,e,hns⟩:=hLmem m hm
     obtain⟨v1,v2,_⟩:=k2.2.2 j (by omega) hj
     have hR':=hR.drew d
     have hlt:=bJ g1
     obtain⟨r1,r2⟩:=hR'.oA hg rfl (fun p=>yn g1) hlt (.iter (some q) es.length (seen++[j])) (.mapIter (some (K.φ q)) es.length (seen.toArray.push j) es.length) (fun b hb=>hb) (by show frz w.heap[K.φ r]? = _;rw[g1];rfl) (fun w' hw'=>⟨some (K.φ q),by simpa using hw',g3,rfl⟩)
     refine⟨_,_,.tuple #[.bool true,(es'[j]).key,(es'[j]).val],_,?_,h1 j (es[j]'(by omega)).1 (es[j]'(by omega)).2 (List.getElem?_eq_getElem (by omega)) hns,?_,r1,r2.drew d⟩
     ·rw[hrun0,hch,Result.andThen_ok]
      have ai:((if L.isEmpty then #[none] else #[])++L.map some)[m]? = some (some es'[j]):=by
       simp[hem,hm,e]
      rw[ai]
      simp only[Sem.run_bind,Ar (w:={w with drawn:=d}) _ g1,Result.andThen_ok,Sem.run_pure,hborn j hj]
     ·rw[yV]
      exact VRs.tup (cs:=#[.bool true,(es'[j]).key,(es'[j]).val]) (.cons (.bool _) (.cons v1 (.cons v2 .nil)))
   ·exact hX.elim
  ·exact hX.elim
 ·exact hX.elim
theorem Bs{σ:List aa}{w:World}(hR:R K σ w){r:Nat}{v:AV}{σ':List aa}(h:Ev σ (ai σ r)=some (v,σ')) :
  ∃c,(Instr.entry (.pointer (some ⟨K.φ r,0,none⟩))).run P w= .ok c w∧VR K σ.length v c∧σ'=σ:=by
 unfold Ev at h
 split at h
 ·rename_i q c seen hg
  split at h
  ·rename_i es i hq hi
   split at h
   ·rename_i hc
    subst hc
    simp only[Option.map_eq_some_iff,Prod.mk.injEq] at h
    obtain⟨p,hp,rfl,rfl⟩:=h
    obtain⟨m',g1,g3,rfl⟩:=hR.obj r _ hg
    obtain⟨es',clock,k1,k2⟩:=hR.obj q _ hq
    obtain⟨hil,hie⟩:=List.getElem?_eq_some_iff.1 hp
    have hcl:clock=es.length:=by rw[k2.2.1,k2.1]
    subst hcl
    have hil':i<es'.size:=by rw[← k2.1];exact hil
    obtain⟨v1,v2,v3⟩:=k2.2.2 i hil hil'
    have hback:seen.toArray.back? = some i:=by rw[← hi];simp
    have hfind:es'.find? (fun e=>e.born==i)=some es'[i]:=by
     rw[Array.find?_eq_some_iff_getElem]
     refine⟨by simpa using v3,i,hil',rfl,fun j hj=>?_⟩
     have:=(k2.2.2 j (by omega) (by omega)).2.2
     rw[this];simp;omega
    refine⟨.tuple #[(es'[i]).key,(es'[i]).val],?_,?_,rfl⟩
    ·simp only[Instr.entry,Sem.run_bind,q9 g1,Result.andThen_ok,hback,e9 k1,bne_self_eq_false,Bool.false_eq_true,if_false,hfind,Sem.run_pure]
    ·rw[← hie]
     exact VRs.tup (cs:=#[(es'[i]).key,(es'[i]).val]) (.cons v1 (.cons v2 .nil))
   ·cases h
  ·cases h
 ·cases h
end Go.Mu
