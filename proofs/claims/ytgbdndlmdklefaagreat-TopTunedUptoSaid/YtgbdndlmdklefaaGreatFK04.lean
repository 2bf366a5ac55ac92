/- Part Vc of the abstract layer: slices that are written into. -/
import Derived.Test.YtgbdndlmdklefaaGreatFK03
set_option linter.unusedSimpArgs false
set_option linter.unusedVariables false
namespace Go.Mu
open Go
variable {P:Program}{K:Kr}{n N:Nat}{ty:Nat→TI}
theorem hset_same'{σ:List AObj}{r:Nat}{x:AObj}(h:hget σ r=some x):hset σ r x=σ:=by
 unfold hget at h;unfold hset
 obtain⟨h1,h2⟩:=List.getElem?_eq_some_iff.1 h
 rw[← h2];exact List.set_getElem_self h1
theorem VR.one{v:AV}{c:Value}(h:VR K n v c)(h1:c.oneCell'=true):v.cells=[v]:=by
 cases h<;> simp[AV.cells,Value.oneCell'] at h1⊢
theorem ofCells_cells{x:AV}{c:Value}{cs:List AV}{cc:List Value}(hx:VR K n x c)(hf:x.flat=true)(hl:cs.length=x.cells.length)(hv:VRs K n cs cc)(h1:∀c∈cc,c.oneCell'=true):(ofCells x cs).cells=cs∧(ofCells x cs).flat=true:=by
 cases x with
 | agg ds=>exact⟨rfl,rfl⟩
 | tup ds=>simp[AV.flat] at hf
 | _=>
  simp[AV.cells] at hl
  obtain⟨c',rfl⟩:=List.length_eq_one_iff.1 hl
  obtain⟨d,rfl⟩:=List.length_eq_one_iff.1 (hv.1.symm.trans hl)
  have hd:=h1 d (by simp)
  have:=hv.head.one hd
  refine⟨this,?_⟩
  have hq:=hv.head
  show c'.flat=true
  cases hq<;> simp[AV.flat,Value.oneCell'] at hd⊢
theorem flatMap_set(sz:Nat):∀(xs:List AV) (i:Nat) (x':AV) (off:Nat) (new:List AV) (hs:∀i (h:i<xs.length),(xs[i]).cells.length=sz) (hi:i<xs.length),x'.cells=putAt off new (xs[i]).cells→off+new.length≤sz→
  (xs.set i x').flatMap AV.cells=putAt (i*sz+off) new (xs.flatMap AV.cells)
 | [],i,x',off,new,hs,hi,_,_=>by simp at hi
 | x::xs,0,x',off,new,hs,hi,he,hl=>by
  have h0:x.cells.length=sz:=hs 0 (by simp)
  simp only[List.getElem_cons_zero] at he
  simp only[List.set_cons_zero,List.flatMap_cons,he,putAt,Nat.zero_mul,Nat.zero_add]
  rw[List.take_append_of_le_length (by omega),List.drop_append_of_le_length (by omega)]
  simp
 | x::xs,i+1,x',off,new,hs,hi,he,hl=>by
  have h0:x.cells.length=sz:=hs 0 (by simp)
  have hr:∀i (h:i<xs.length),(xs[i]).cells.length=sz:=fun i hi=>by have:=hs (i+1) (by simpa using hi);simpa using this
  simp only[List.set_cons_succ,List.flatMap_cons]
  rw[flatMap_set sz xs i x' off new hr (by simpa using hi) (by simpa using he) hl]
  have e:(i+1)*sz+off=x.cells.length+(i*sz+off):=by rw[Nat.add_mul,h0];omega
  rw[e]
  have e3:∀(F:List AV) k,(x.cells++F).take (x.cells.length+k)=x.cells++F.take k:=fun F k=>List.take_length_add_append ..
  have e4:∀(F:List AV) k,(x.cells++F).drop (x.cells.length+k+new.length)=F.drop (k+new.length):=fun F k=>by rw[Nat.add_assoc,List.drop_length_add_append]
  unfold putAt
  rw[e3,e4]
  simp only[List.append_assoc]
theorem vec_row{w:World}{r sz:Nat}{xs:List AV}(h:ObjR K n w r (.vec sz xs)) :
  ∃a cap cc,K.tl r xs.length=some (a,cap)∧xs.length≤cap∧cc.length=xs.length*sz∧VRs K n (xs.flatMap AV.cells) cc∧(∀c∈cc,c.oneCell'=true)∧
   (xs.length≠0→∃b o,a=some ⟨b,o,none⟩∧∀p (hp:p<cc.length),w.cell? ⟨b,o+p,none⟩= some cc[p]):=by
 obtain⟨a,cap,h1,h2,h3,h4,h5⟩:=h
 by_cases hc:0<cap
 ·obtain⟨b,o,cc,E,rfl,g2,g3,g4,g5,g6⟩:=h5 hc
  have hle:xs.length*sz≤cap*sz:=Nat.mul_le_mul_right sz h2
  have hl:((cc.toList.drop o).take (xs.length*sz)).length=xs.length*sz:=by simp;omega
  refine⟨_,cap,(cc.toList.drop o).take (xs.length*sz),h1,h2,hl,g4,fun c hc=>g5 c (List.mem_of_mem_drop (List.mem_of_mem_take hc)),fun _=>⟨b,o,rfl,fun p hp=>?_⟩⟩
  have:o+p<cc.size:=by omega
  simp[World.cell?,g2,this]
 ·have h0:xs=[]:=List.eq_nil_of_length_eq_zero (by omega)
  subst h0
  exact⟨a,cap,[],h1,h2,by simp,.nil,by simp,fun h=>absurd rfl h⟩
theorem run_firstCellsW{w:World}{a:Option Addr}{len cap sz k:Nat}{cc:List Value}(hk:cc.length=k*sz)
  (ha:k≠0→∃b o,a=some ⟨b,o,none⟩∧∀p (hp:p<cc.length),w.cell? ⟨b,o+p,none⟩= some cc[p]):(Builtin.firstCells sz k (.slice a len cap)).run P w= .ok cc.toArray w:=by
 by_cases h0:k=0
 ·subst h0
  simp at hk;subst hk
  cases a with
  | none=>rfl
  | some a=>simp[Builtin.firstCells,loadCells,loadCellsFrom]
 ·obtain⟨b,o,rfl,h⟩:=ha h0
  simp only[Builtin.firstCells]
  rw[← hk]
  refine run_loadCells_list w ⟨b,o,none⟩ cc fun j v hv=>?_
  obtain⟨hj,rfl⟩:=List.getElem?_eq_some_iff.1 hv
  rw[addr_add]
  exact h j hj
theorem vload_sound(hT:TysOK P ty){σ:List AObj}{w:World}(hR:R K σ w){r sz i off t:Nat}{xs:List AV}(hg:hget σ r=some (.vec sz xs)){c:Value}(hv:VR K σ.length (.vptr r xs.length sz i off) c)(hi:i<xs.length){v:AV}
  (hs:subAt off (ty t).sz (xs[i]).cells (ty t).kd.agg=some v):∃b o c',c= .pointer (some ⟨b,o,none⟩)∧(loadVar t ⟨b,o,none⟩).run P w= .ok c' w∧VR K σ.length v c':=by
 have hO:=hR.obj r _ hg
 have hsz:∀i (h:i<xs.length),(xs[i]).cells.length=sz:=by obtain⟨_,_,_,_,_,h,_⟩:=hO;exact h
 obtain⟨a,cap,cc,h1,h2,hl,h3,h4,h5⟩:=vec_row hO
 obtain⟨b,o,rfl,h6⟩:=h5 (by omega)
 cases hv with
 | vptr _ _ _ _ _ b' o' cap' hr ht=>
  rw[h1] at ht
  simp only[Option.some.injEq,Prod.mk.injEq,Addr.mk.injEq] at ht
  obtain⟨⟨rfl,rfl,_⟩,rfl⟩:=ht
  have hmul:(i+1)*sz≤xs.length*sz:=Nat.mul_le_mul_right sz hi
  rw[Nat.add_mul] at hmul
  have key:=load_sound (P:=P) (K:=K) (n:=σ.length) (w:=w) (b:=b) (o:=o+i*sz) (f:=fun j=>cc.getD (i*sz+j) undef) hT (cs:=(xs[i]).cells) (fun j hj=>?_) hs
  ·obtain⟨c',k1,k2⟩:=key
   exact⟨b,o+(i*sz+off),c',rfl,by rw[← Nat.add_assoc];exact k1,k2⟩
  ·have hj':j<sz:=by rw[← hsz i hi];exact hj
   have hlt:i*sz+j<cc.length:=by omega
   have hd:cc.getD (i*sz+j) undef=cc[i*sz+j]:=by simp[List.getD,List.getElem?_eq_getElem hlt]
   have hgm:=flatMap_get sz xs i j hsz hj'
   have hlt':i*sz+j<(xs.flatMap AV.cells).length:=by rw[h3.1];exact hlt
   rw[List.getElem?_eq_getElem hlt',List.getElem?_eq_getElem hi] at hgm
   simp only[Option.bind_some,List.getElem?_eq_getElem hj,Option.some.injEq] at hgm
   have hvr:=h3.2 _ hlt' hlt
   rw[hgm] at hvr
   refine⟨?_,?_,?_⟩
   ·show _=some (cc.getD (i*sz+j) undef)
    rw[hd,Nat.add_assoc];exact h6 _ hlt
   ·show(cc.getD (i*sz+j) undef).oneCell'=true
    rw[hd];exact h4 _ (List.getElem_mem hlt)
   ·show VR K σ.length _ (cc.getD (i*sz+j) undef)
    rw[hd];exact hvr
theorem vstore_sound(hT:TysOK P ty){σ:List AObj}{w:World}(hR:R K σ w){r sz i off t:Nat}{xs:List AV}(hk:(ty t).kd.agg.isSome=true)(hg:hget σ r=some (.vec sz xs)){c:Value}(hp:VR K σ.length (.vptr r xs.length sz i off) c)(hi:i<xs.length)
  (hfx:(xs[i]).flat=true) {v:AV} {d:Value} (hv:VR K σ.length v d) (hf:v.flat=true) (hl:v.cells.length=(ty t).sz) (hlen:off+v.cells.length≤sz) :
  ∃w',(Instr.storeAt t c d).run P w= .ok () w'∧R K (hset σ r (.vec sz (xs.set i (ofCells (xs[i]) (putAt off v.cells (xs[i]).cells))))) w'∧Step K σ w K (hset σ r (.vec sz (xs.set i (ofCells (xs[i]) (putAt off v.cells (xs[i]).cells))))) w':=by
 obtain⟨a,cap,h1,h2,h3,hsz,h5⟩:=hR.obj r _ hg
 obtain⟨b,o,cc,E,rfl,g2,g3,g4,g5,g6⟩:=h5 (by omega)
 obtain⟨q1,q2⟩:=hv.cells hf
 have hdz:d.cells.size=(ty t).sz:=by have:=q1.1;simp at this;omega
 cases hp with
 | vptr _ _ _ _ _ b' o' cap' hr ht=>
  rw[h1] at ht
  simp only[Option.some.injEq,Prod.mk.injEq,Addr.mk.injEq] at ht
  obtain⟨⟨rfl,rfl,_⟩,rfl⟩:=ht
  have hmul:(i+1)*sz≤xs.length*sz:=Nat.mul_le_mul_right sz hi
  have hmul2:xs.length*sz≤cap*sz:=Nat.mul_le_mul_right sz h2
  rw[Nat.add_mul] at hmul
  have hst:=run_storeCells_at P b (o+(i*sz+off)) E d.cells.toList 0 cc w g2 (by simp;omega) (fun x hx=>q2 x hx)
  simp only[Nat.add_zero] at hst
  have hdl:d.cells.toList.length=v.cells.length:=q1.1.symm
  have hrow:VRs K σ.length (xs.flatMap AV.cells) ((cc.toList.drop o).take (xs.length*sz)):=g4
  have hxi:VRs K σ.length (xs[i]).cells (((cc.toList.drop o).take (xs.length*sz)).drop (i*sz) |>.take sz):=by
   have:=(hrow.drop (i*sz)).take sz
   have e:((xs.flatMap AV.cells).drop (i*sz)).take sz=(xs[i]).cells:=by
    apply List.ext_getElem?
    intro j
    by_cases hj:j<sz
    ·rw[List.getElem?_take_of_lt hj,List.getElem?_drop,flatMap_get sz xs i j hsz hj,List.getElem?_eq_getElem hi];rfl
    ·rw[List.getElem?_take_eq_none (by omega),List.getElem?_eq_none (by rw[hsz i hi];omega)]
   rwa [e] at this
  have hone:∀c∈(((cc.toList.drop o).take (xs.length*sz)).drop (i*sz) |>.take sz),c.oneCell'=true:=fun c hc=>g5 c (List.mem_of_mem_drop (List.mem_of_mem_take (List.mem_of_mem_drop (List.mem_of_mem_take hc))))
  have hput:VRs K σ.length (putAt off v.cells (xs[i]).cells) (let l:=(((cc.toList.drop o).take (xs.length*sz)).drop (i*sz) |>.take sz);l.take off++d.cells.toList++l.drop (off+v.cells.length)):=((hxi.take off).append q1).append (hxi.drop _)
  have hpl:(putAt off v.cells (xs[i]).cells).length=(xs[i]).cells.length:=by
   have:=hsz i hi
   simp only[putAt,List.length_append,List.length_take,List.length_drop];omega
  have hoc:(ofCells (xs[i]) (putAt off v.cells (xs[i]).cells)).cells=putAt off v.cells (xs[i]).cells∧(ofCells (xs[i]) (putAt off v.cells (xs[i]).cells)).flat=true:=by
   cases hx:xs[i] with
   | agg ds=>exact⟨rfl,rfl⟩
   | tup ds=>rw[hx] at hfx;simp[AV.flat] at hfx
   | _=>
    rw[hx] at hxi hput hpl
    have hx1:=hxi.1
    simp only[AV.cells,List.length_singleton] at hx1 hxi hpl
    obtain⟨e,he⟩:=List.length_eq_one_iff.1 hx1.symm
    rw[he] at hxi
    refine ofCells_cells (K:=K) (n:=σ.length) hxi.head (by rw[hx] at hfx;exact hfx) hpl hput fun c hc=>?_
    simp only[List.mem_append] at hc
    rcases hc with(hc | hc) | hc
    ·exact hone c (List.mem_of_mem_take hc)
    ·exact q2 c hc
    ·exact hone c (List.mem_of_mem_drop hc)
  have hfm:=flatMap_set sz xs i _ off v.cells hsz hi hoc.1 hlen
  refine⟨w.setRow b (cc.toList.take (o+(i*sz+off))++d.cells.toList++cc.toList.drop (o+(i*sz+off)+d.cells.toList.length)).toArray,?_,?_⟩
  ·simp only[Instr.storeAt,Instr.sureAddr,storeVar,Sem.run_bind,Sem.run_pure,Result.andThen_ok,run_size hT (kd_of_agg hk),hdz,ne_eq,not_true_eq_false,if_false]
   exact hst
  ·refine hR.turn hg b ⟨_,cap,h1,by omega,rfl⟩ K (.refl _ _) (fun _ _=>rfl) (fun b hb=>setRow_other w _ _ _ hb) (setRow_size _ _ _) (fun _ _ _=>rfl) (fun p v' hv'=>by rw[g6 p] at hv';cases hv') (fun b' hb=>?_) ?_ rfl rfl rfl (by rw[setRow_heap w _ cc _ E (0,0) g2,g2];rfl)
   ·obtain⟨a',cap',k1,k2,rfl⟩:=hb
    simp only[List.length_set] at k1
    rw[h1] at k1;simp at k1;rw[← k1.1]
   ·refine⟨_,cap,by simpa using h1,by simpa using h2,by simpa using h3,fun j hj=>?_,fun hc=>⟨b,o,_,E,rfl,setRow_heap w _ cc _ E (0,0) g2,?_,?_,?_,g6⟩⟩
    ·rw[List.getElem_set]
     split
     ·rw[hoc.1,hpl];exact hsz i hi
     ·exact hsz j (by simpa using hj)
    ·simp only[List.size_toArray,List.length_append,List.length_take,List.length_drop,Array.length_toList];omega
    ·rw[hfm]
     simp only[List.length_set]
     have hnew:((cc.toList.take (o+(i*sz+off))++d.cells.toList++cc.toList.drop (o+(i*sz+off)+d.cells.toList.length)).drop o).take (xs.length*sz) =
       (let l:=(cc.toList.drop o).take (xs.length*sz);l.take (i*sz+off)++d.cells.toList++l.drop (i*sz+off+v.cells.length)):=by
      have hsz2:cc.toList.length=cc.size:=by simp
      apply List.ext_getElem?
      intro j
      simp only[List.getElem?_take,List.getElem?_drop,List.getElem?_append,List.length_append,List.length_take,List.length_drop,hdl,hsz2]
      grind
     rw[hnew]
     exact((hrow.take _).append q1).append (hrow.drop _)
    ·intro x hx
     simp only[List.mem_append] at hx
     rcases hx with(hx | hx) | hx
     ·exact g5 x (List.mem_of_mem_take hx)
     ·exact q2 x hx
     ·exact g5 x (List.mem_of_mem_drop hx)
theorem append_room(hT:TysOK P ty){w w':World}{t0 t1 e e':Nat}{ats:Array TypeId}(ht0:ats[0]? = some t0)(ht1:ats[1]? = some t1)(hk0:(ty t0).kd= .slice e)(hk1:(ty t1).kd= .slice e')(hag:(ty e).kd.agg.isSome=true)(type:TypeId)
  {a a2:Option Addr} {l cap l2 cap2:Nat} {cc2:List Value} (hle:l+l2≤cap) (hfc2:(Builtin.firstCells (ty e).sz l2 (.slice a2 l2 cap2)).run P w= .ok cc2.toArray w)
  (hst:∀b,a=some b→(storeCells (b.add (l*(ty e).sz)) cc2).run P w= .ok () w') (hno:a=none→w'=w) :
  (Builtin.append_ ats type #[.slice a l cap,.slice a2 l2 cap2]).run P w= .ok (.slice a (l+l2) cap) w':=by
 have hk0':(ty t0).kd≠ .other:=by rw[hk0];simp
 have hk1':(ty t1).kd≠ .other:=by rw[hk1];simp
 obtain⟨d0,hd0,hu0⟩:=run_under hT hk0'
 obtain⟨d1,hd1,hu1⟩:=run_under hT hk1'
 rw[hk0] at hd0;rw[hk1] at hd1
 simp only[KdOK] at hd0 hd1;subst hd0;subst hd1
 cases a with
 | none=>simp[Builtin.append_,ht0,ht1,hu0 w,hu1 w,run_size hT (kd_of_agg hag),Builtin.lenOf,hle,hfc2,hno rfl]
 | some b=>simp[Builtin.append_,ht0,ht1,hu0 w,hu1 w,run_size hT (kd_of_agg hag),Builtin.lenOf,hle,hfc2,hst b rfl]
theorem append_grow(hT:TysOK P ty){w:World}{t0 t1 e e':Nat}{ats:Array TypeId}(ht0:ats[0]? = some t0)(ht1:ats[1]? = some t1)(hk0:(ty t0).kd= .slice e)(hk1:(ty t1).kd= .slice e')(hag:(ty e).kd.agg.isSome=true)(hby:(ty e).bytes≤4096)
  (hzl:(ty e).zero.cells.length=(ty e).sz) (type:TypeId)
  {a a2:Option Addr} {l cap l2 cap2:Nat} {cc cc2:List Value} (hlt:cap<l+l2) (hbound:l+l2≤4294967296) (hfd1:∀d,(Builtin.firstCells (ty e).sz l (.slice a l cap)).run P {w with drawn:=d}= .ok cc.toArray {w with drawn:=d})
  (hfd2:∀d,(Builtin.firstCells (ty e).sz l2 (.slice a2 l2 cap2)).run P {w with drawn:=d}= .ok cc2.toArray {w with drawn:=d}) :
  ∃nc rest d,w.drawn≤d∧l+l2≤nc∧rest.length=(nc- (l+l2))*(ty e).sz∧(∀x∈rest,x.oneCell'=true)∧
   (Builtin.append_ ats type #[.slice a l cap,.slice a2 l2 cap2]).run P w= .ok (.slice (some ⟨w.heap.size,0,none⟩) (l+l2) nc) (({w with drawn:=d}:World).alloc (.cells (cc++cc2++rest).toArray e (0,0))):=by
 have hk0':(ty t0).kd≠ .other:=by rw[hk0];simp
 have hk1':(ty t1).kd≠ .other:=by rw[hk1];simp
 obtain⟨d0,hd0,hu0⟩:=run_under hT hk0'
 obtain⟨d1,hd1,hu1⟩:=run_under hT hk1'
 rw[hk0] at hd0;rw[hk1] at hd1
 simp only[KdOK] at hd0 hd1;subst hd0;subst hd1
 obtain⟨z,hz,hzr⟩:=run_zero (K:=⟨fun _=>0,fun _ _=>none,fun _ _=>none⟩) (n:=0) hT (kd_of_agg hag)
 obtain⟨ti,hi1,hi2,_,hir⟩:=run_info hT (kd_of_agg hag)
 have hzc:=hz.cells (zero_flat hT (kd_of_agg hag))
 have hzs:z.cells.size=(ty e).sz:=by
  have:=hzc.1.1;simp at this;omega
 have hq:Builtin.nextslicecap (l+l2) cap*(ty e).bytes≤2^48:=by
  have h3:=nextcap_le _ _ hlt
  have h4:Builtin.nextslicecap (l+l2) cap≤8589934792:=by omega
  calc _≤8589934792*4096:=Nat.mul_le_mul h4 hby
   _≤2^48:=by decide
 generalize hnc:(l+l2)+w.tape w.drawn (.appendCap (l+l2) cap e)%(2^63- (l+l2))=nc
 have hncl:l+l2≤nc:=by omega
 let wd:World:={w with drawn:=w.drawn+1}
 have hfd1':(Builtin.firstCells (ty e).sz l (.slice a l cap)).run P wd= .ok cc.toArray wd:=hfd1 _
 have hfd2':(Builtin.firstCells (ty e).sz l2 (.slice a2 l2 cap2)).run P wd= .ok cc2.toArray wd:=hfd2 _
 have hch:(choose (.appendCap (l+l2) cap e)).run P w= .ok nc wd:=by
  rw[run_choose];simp only[Question.forced,Question.cut,Bool.false_eq_true,if_false,hnc];rfl
 refine⟨nc,(Builtin.zeroCells z.cells (nc- (l+l2))).toList,w.drawn+1,Nat.le_add_right _ _,hncl,by rw[Array.length_toList,zeroCells_size,hzs],fun x hx=>?_,?_⟩
 ·simp only[Builtin.zeroCells,Array.toList_map,List.mem_map] at hx
  obtain⟨q,hq,rfl⟩:=hx
  have hq':q<(nc- (l+l2))*z.cells.size:=by simpa using hq
  have hpos:0<z.cells.size:=by
   rcases Nat.eq_zero_or_pos z.cells.size with h | h
   ·rw[h] at hq';simp at hq'
   ·exact h
  have hm:=Nat.mod_lt q hpos
  rw[getElem!_pos z.cells (q%z.cells.size) hm]
  exact hzc.2 _ (by simp)
 have hle:¬l+l2≤cap:=by omega
 have hb:¬(Builtin.nextslicecap (l+l2) cap*ti.bytes>2^48):=by rw[hi2];omega
 have hb':¬(281474976710656<Builtin.nextslicecap (l+l2) cap*ti.bytes):=by simpa using hb
 have hn9:¬(IntKind.i64.max<(l:Int)+l2):=by simp[IntKind.max,IntKind.signed,IntKind.bits];omega
 simp[Builtin.append_,ht0,ht1,hu0 w,hu1 w,run_size hT (kd_of_agg hag),Builtin.lenOf,hle,hir,hb',hn9,hch,hfd1',hfd2',hzr,newRow]
 rw[if_neg (by omega),if_neg (by simp[Question.forced])]
 have hdrew:w.drew=wd:=rfl
 rw[hdrew,hfd1',Result.andThen_ok,hfd2',Result.andThen_ok]
 have hcut:(Question.appendCap (l+l2) cap e).cut (w.tape w.drawn (Question.appendCap (l+l2) cap e))=nc:=hnc
 rw[hcut]
 have harr:cc.toArray++(cc2.toArray++Builtin.zeroCells z.cells (nc- (l+l2)))=(cc++cc2++(Builtin.zeroCells z.cells (nc- (l+l2))).toList).toArray:=by
  apply Array.ext';simp
 rw[harr,List.append_assoc]
theorem len_app_sz{sz:Nat}{xs ys:List AV}(hs1:∀i (h:i<xs.length),(xs[i]).cells.length=sz)(hs2:∀i (h:i<ys.length),(ys[i]).cells.length=sz):∀i (h:i<(xs++ys).length),((xs++ys)[i]).cells.length=sz:=fun i hi=>by
 by_cases e:i<xs.length
 ·rw[List.getElem_append_left e];exact hs1 i e
 ·rw[List.getElem_append_right (by omega)];exact hs2 _ _
theorem fapp_sound(hT:TysOK P ty){σ σ':List AObj}{w:World}(hR:R K σ w){t0 t1 e e':Nat}{ats:Array TypeId}(ht0:ats[0]? = some t0)(ht1:ats[1]? = some t1)(hk0:(ty t0).kd= .slice e)(hk1:(ty t1).kd= .slice e')
  {t':Tok} {sz sz':Nat} {ys:List AV} {c1 c2:Value} {v:AV} (hv1:VR K σ.length (.list .full sz []) c1) (hv2:VR K σ.length (.list t' sz' ys) c2) (h:appF (ty e) σ sz' ys=some (v,σ')) (type:TypeId) :
  ∃c K' w',(Builtin.append_ ats type #[c1,c2]).run P w= .ok c w'∧VR K' σ'.length v c∧R K' σ' w'∧Step K σ w K' σ' w':=by
 unfold appF at h
 split at h
 case isFalse=>cases h
 rename_i hc
 obtain⟨hag,hpos,hby,hzl,hsz',hbound⟩:=hc
 simp only[Option.some.injEq,Prod.mk.injEq] at h
 obtain⟨rfl,rfl⟩:=h
 obtain⟨a2,cap2,cc2,rfl,hcap2,_,hs2,hvr2,h2,ha2⟩:=hv2.list_row
 obtain⟨a,cap,cc,rfl,hcap,htok,_⟩:=hv1.list_row
 have hc0:cap=0:=htok
 subst hc0
 have hs2':∀i (h:i<ys.length),(ys[i]).cells.length=(ty e).sz:=fun i hi=>by
  rcases hsz' with e | e
  ·rw[← e];exact hs2 i hi
  ·subst e;simp at hi
 have hl2:cc2.length=ys.length*(ty e).sz:=by rw[← hvr2.1,flatMap_len _ ys hs2']
 have hfc2:=run_firstCells (P:=P) (w:=w) hR (a:=a2) (len:=ys.length) (cap:=cap2) hl2 (fun hx=>ha2 (list_len_pos hx))
 have hnewq:∀(o:AObj) q o',q≠σ.length→(σ++[o])[q]? = some o'→σ[q]? = some o':=fun o q o' hq hg=>by
  rw[List.getElem?_append] at hg
  split at hg
  ·exact hg
  ·cases hk:q-σ.length with
   | zero=>omega
   | succ j=>rw[hk] at hg;simp at hg
 by_cases hyn:ys=[]
 ·subst hyn
  have hc0:cc2=[]:=List.eq_nil_of_length_eq_zero (by rw[hl2];simp)
  let K':Kr:=K.setT σ.length fun k=>if k=0 then some (a,0) else none
  have hext:Ext σ.length K K':=⟨fun _ _=>rfl,fun q hq k x hx=>by simp only[K',Kr.setT];rw[if_neg (by omega)];exact hx,fun _ _ _ h=>h⟩
  have hK':∀k,K'.tl σ.length k=if k=0 then some (a,0) else none:=fun k=>by simp only[K',Kr.setT,if_true]
  obtain⟨r1,r2⟩:=hR.ghostAt (σ':=σ++[.vec (ty e).sz []]) σ.length (.vec (ty e).sz []) K' hext (by simp) (by simp) (hnewq _)
   (fun q hq=>by simp only[K',Kr.setT];rw[if_neg hq]) rfl
   (fun b hb=>by
    obtain⟨a',cap',g1,g2,_⟩:=hb
    rw[hK'] at g1;simp at g1;omega)
   ⟨a,0,by rw[hK'];rfl,Nat.le_refl _,fun k hk=>by rw[hK',if_neg (by simp at hk;omega)],fun i hi=>by simp at hi,fun h=>absurd h (Nat.lt_irrefl _)⟩
  refine⟨_,K',w,append_room hT ht0 ht1 hk0 hk1 hag type (by simp) hfc2 (fun b _=>by subst hc0;rfl) (fun _=>rfl),?_,r1,r2⟩
  exact .vec _ _ a 0 (by simp) (by simp) (by rw[hK'];rfl) (.inl rfl)
 have hyl:0<ys.length:=List.length_pos_iff.2 hyn
 obtain⟨nc,rest,d,hdd,g1,g2,g2',g3⟩:=append_grow hT ht0 ht1 hk0 hk1 hag hby hzl type (a:=a) (a2:=a2) (cap2:=cap2) (cc:=[]) (cc2:=cc2) (w:=w) (l:=0) (l2:=ys.length) (cap:=0) (by omega) (by omega)
  (fun d=>run_firstCellsW (by simp) (fun hx=>absurd rfl hx))
  (fun d=>run_firstCells (hR.drew d) hl2 (fun hx=>ha2 (list_len_pos hx)))
 let K':Kr:=K.setT σ.length fun k=>if k=ys.length then some (some ⟨w.heap.size,0,none⟩,nc) else none
 have hext:Ext σ.length K K':=⟨fun _ _=>rfl,fun q hq k x hx=>by simp only[K',Kr.setT];rw[if_neg (by omega)];exact hx,fun _ _ _ h=>h⟩
 have hK':∀k,K'.tl σ.length k=if k=ys.length then some (some ⟨w.heap.size,0,none⟩,nc) else none:=fun k=>by simp only[K',Kr.setT,if_true]
 have htot:(cc2++rest).length=nc*(ty e).sz:=by
  simp only[List.length_append,g2]
  have:nc*(ty e).sz=ys.length*(ty e).sz+(nc- (0+ys.length))*(ty e).sz:=by rw[← Nat.add_mul];congr 1;omega
  omega
 have hg3:([]++cc2++rest)=cc2++rest:=by simp
 rw[hg3] at g3
 obtain⟨r1,r2⟩:=(hR.drew d).newAt (σ':=σ++[.vec (ty e).sz ys]) σ.length (.vec (ty e).sz ys) (.cells (cc2++rest).toArray e (0,0)) K' hext (by simp) (by simp) (by simp) (hnewq _)
  (fun q hq=>by simp only[K',Kr.setT];rw[if_neg hq]) (fun b p v hv=> .inl hv)
  (fun b hb=>by
   obtain⟨a',cap',k1,k2,rfl⟩:=hb
   rw[hK'] at k1;simp at k1;rw[← k1.1])
  ⟨_,nc,by rw[hK',if_pos rfl],by omega,fun k hk=>by rw[hK',if_neg (by omega)],hs2',fun _=>⟨w.heap.size,0,_,e,rfl,heap_alloc_new _ _,by
    simp only[Nat.zero_add,List.size_toArray,htot];exact Nat.le_refl _,by
    simp only[List.drop_zero]
    rw[← hl2,List.take_left']
    ·exact hvr2.mono hext (by simp)
    ·rfl,by
    intro x hx
    simp only[List.mem_append] at hx
    rcases hx with hx | hx
    ·exact h2 x hx
    ·exact g2' x hx,fun p=>by
    cases hk:K.S w.heap.size p with
    | none=>exact hk
    | some v=>have:=hR.lt hk;omega⟩⟩
 refine⟨_,K',_,g3,?_,r1,r2.drew d⟩
 rw[Nat.zero_add]
 exact .vec _ _ _ nc (by simp) (by omega) (by rw[hK',if_pos rfl]) (.inr ⟨_,_,rfl⟩)
theorem makeSlice_sound(hT:TysOK P ty){σ:List AObj}{w:World}(hR:R K σ w){t e:Nat}{l:Int}{k k':IntKind}(hkd:(ty t).kd= .slice e)(h0:0≤l)(h1:l≤1048576)(hag:(ty e).kd.agg.isSome=true)(hby:(ty e).bytes≤4096)(hpos:0<(ty e).sz)(hzl:(ty e).zero.cells.length=(ty e).sz) :
  ∃c K' w',(Instr.makeSlice t (.int k l) (.int k' l)).run P w= .ok c w'∧VR K' (σ.length+1) (.vec σ.length l.toNat) c∧R K' (σ++[.vec (ty e).sz (List.replicate l.toNat (ty e).zero)]) w'∧Step K σ w K' (σ++[.vec (ty e).sz (List.replicate l.toNat (ty e).zero)]) w':=by
 have hk0':(ty t).kd≠ .other:=by rw[hkd];simp
 obtain⟨d0,hd0,hu0⟩:=run_under hT hk0'
 rw[hkd] at hd0
 simp only[KdOK] at hd0;subst hd0
 obtain⟨z,hz,hzr⟩:=run_zero (K:=K) (n:=σ.length) hT (kd_of_agg hag)
 obtain⟨ti,hi1,hi2,_,hir⟩:=run_info hT (kd_of_agg hag)
 obtain⟨q1,q2⟩:=hz.cells (zero_flat hT (kd_of_agg hag))
 have hzs:z.cells.size=(ty e).sz:=by have:=q1.1;simp at this;omega
 have hw:IntKind.i64.wrap l=l:=by rw[IntKind.wrap_i64];omega
 generalize hn:l.toNat=n
 have hln:l=n:=by omega
 let row:Array Value:=(Array.range (n*(ty e).sz)).map (z.cells[· % z.cells.size]!)
 have hrow:row.size=n*(ty e).sz:=by simp[row]
 have hone:∀c∈row.toList,c.oneCell'=true:=fun c hc=>by
  simp only[row,Array.toList_map,List.mem_map] at hc
  obtain⟨q,hq,rfl⟩:=hc
  have hm:=Nat.mod_lt q (show 0<z.cells.size by omega)
  rw[getElem!_pos z.cells (q%z.cells.size) hm]
  exact q2 _ (by simp)
 have hVR:VRs K σ.length ((List.replicate n (ty e).zero).flatMap AV.cells) row.toList:=by
  have hl:((List.replicate n (ty e).zero).flatMap AV.cells).length=n*(ty e).sz:=by rw[flatMap_len (ty e).sz _ (fun i hi=>by simp[hzl])];simp
  refine⟨by rw[hl];simp[row],fun i g1 g2=>?_⟩
  rw[hl] at g1
  have hd:i/(ty e).sz<n:=(Nat.div_lt_iff_lt_mul hpos).2 g1
  have hm:=Nat.mod_lt i hpos
  have hgm:=flatMap_get (ty e).sz (List.replicate n (ty e).zero) (i/(ty e).sz) (i%(ty e).sz) (fun i hi=>by simp[hzl]) hm
  have hdm:i/(ty e).sz*(ty e).sz+i%(ty e).sz=i:=by rw[Nat.mul_comm];exact Nat.div_add_mod i _
  rw[hdm,List.getElem?_eq_getElem (by rw[hl];exact g1),List.getElem?_eq_getElem (by simpa using hd)] at hgm
  simp only[Option.bind_some,List.getElem_replicate] at hgm
  have hlt:i%(ty e).sz<(ty e).zero.cells.length:=by omega
  rw[List.getElem?_eq_getElem hlt,Option.some.injEq] at hgm
  rw[hgm]
  have hm':i%z.cells.size<z.cells.size:=by rw[hzs];exact hm
  have hr:row.toList[i]=z.cells.toList[i%(ty e).sz]'(by simp;omega):=by
   simp only[row,Array.getElem_toList,Array.getElem_map,Array.getElem_range]
   rw[getElem!_pos z.cells (i%z.cells.size) hm']
   simp[hzs]
  rw[hr]
  exact q1.2 _ hlt _
 let K':Kr:=K.setT σ.length fun k=>if k=n then some (some ⟨w.heap.size,0,none⟩,n) else none
 have hext:Ext σ.length K K':=⟨fun _ _=>rfl,fun q hq k x hx=>by simp only[K',Kr.setT];rw[if_neg (by omega)];exact hx,fun _ _ _ h=>h⟩
 have hK':∀k,K'.tl σ.length k=if k=n then some (some ⟨w.heap.size,0,none⟩,n) else none:=fun k=>by simp only[K',Kr.setT,if_true]
 obtain⟨r1,r2⟩:=hR.new (.vec (ty e).sz (List.replicate n (ty e).zero)) (.cells row e (0,0)) K' hext
  (fun q hq=>by simp only[K',Kr.setT];rw[if_neg hq]) (fun b p v hv=> .inl hv)
  (fun b hb=>by
   obtain⟨a',cap',k1,k2,rfl⟩:=hb
   rw[List.length_replicate,hK',if_pos rfl] at k1;simp at k1;rw[← k1.1])
  ⟨_,n,by rw[List.length_replicate,hK',if_pos rfl],by simp,fun k hk=>by rw[List.length_replicate] at hk;rw[hK',if_neg (by omega)],fun i hi=>by simp[hzl],fun _=>⟨w.heap.size,0,row,e,rfl,heap_alloc_new _ _,by
    rw[hrow,Nat.zero_add];exact Nat.le_refl _,by
    rw[List.drop_zero,List.length_replicate,List.take_of_length_le (by simp[row])]
    exact hVR.mono hext (by omega),hone,fun p=>by
    cases hk:K.S w.heap.size p with
    | none=>exact hk
    | some v=>have:=hR.lt hk;omega⟩⟩
 refine⟨.slice (some ⟨w.heap.size,0,none⟩) n n,K',_,?_,.vec _ _ _ n (by omega) (Nat.le_refl _) (by rw[hK',if_pos rfl]) (.inr ⟨_,_,rfl⟩),r1,r2⟩
 have hby':(ti.bytes:Int)*l≤4096*1048576:=Int.mul_le_mul (by omega) h1 h0 (by decide)
 have hnn:¬(281474976710656<(ti.bytes:Int)*l):=by omega
 have hl0:¬l<0:=by omega
 by_cases hn0:n*(ty e).sz=0
 ·have hn1:n=0:=by
   rcases Nat.eq_zero_or_pos n with h | h
   ·exact h
   ·have:=Nat.mul_pos h hpos;omega
  have hrow0:row= #[]:=by
   apply Array.eq_empty_of_size_eq_zero
   rw[hrow,hn0]
  rw[hrow0]
  simp[Instr.makeSlice,asInt,asIntOf,hu0 w,hir,hw,hl0,hnn,hn,run_size hT (kd_of_agg hag),newRow,hn1]
  congr 2
  apply Array.eq_empty_of_size_eq_zero
  simp
 ·simp[Instr.makeSlice,asInt,asIntOf,hu0 w,hir,hw,hl0,hnn,hn,run_size hT (kd_of_agg hag),newRow,hn0,hzr,row]
theorem vapp_sound(hT:TysOK P ty){σ σ':List AObj}{w:World}(hR:R K σ w){t0 t1 e e':Nat}{ats:Array TypeId}(ht0:ats[0]? = some t0)(ht1:ats[1]? = some t1)(hk0:(ty t0).kd= .slice e)(hk1:(ty t1).kd= .slice e')
  {t':Tok} {r len sz':Nat} {ys:List AV} {c1 c2:Value} {v:AV} (hv1:VR K σ.length (.vec r len) c1) (hv2:VR K σ.length (.list t' sz' ys) c2) (h:appV (ty e) σ r len sz' ys=some (v,σ')) (type:TypeId) :
  ∃c K' w',(Builtin.append_ ats type #[c1,c2]).run P w= .ok c w'∧VR K' σ'.length v c∧R K' σ' w'∧Step K σ w K' σ' w':=by
 unfold appV at h
 split at h
 case h_2=>cases h
 rename_i sz xs hg
 split at h
 case isFalse=>cases h
 rename_i hc
 obtain⟨hag,hpos,hby,hzl,rfl,hsz',rfl,hbound⟩:=hc
 simp only[Option.some.injEq,Prod.mk.injEq] at h
 obtain⟨rfl,rfl⟩:=h
 obtain⟨a2,cap2,cc2,rfl,hcap2,_,hs2,hvr2,h2,ha2⟩:=hv2.list_row
 have hs2':∀i (h:i<ys.length),(ys[i]).cells.length=(ty e).sz:=fun i hi=>by
  rcases hsz' with e | e
  ·rw[← e];exact hs2 i hi
  ·subst e;simp at hi
 have hl2:cc2.length=ys.length*(ty e).sz:=by rw[← hvr2.1,flatMap_len _ ys hs2']
 have hO:=hR.obj r _ hg
 have hr:=hget_lt hg
 obtain⟨a,cap,cc,h1,hcap,hl1,hvr1,hone,hrow⟩:=vec_row hO
 cases hv1 with
 | vec _ _ a' cap' _ hlc ht ha=>
 rw[h1] at ht;simp only[Option.some.injEq,Prod.mk.injEq] at ht
 obtain⟨rfl,rfl⟩:=ht
 obtain⟨a'',cap'',k1,_,hnew,hs1,hblk⟩:=hO
 rw[h1] at k1;simp only[Option.some.injEq,Prod.mk.injEq] at k1
 obtain⟨rfl,rfl⟩:=k1
 have hsl:∀o,(hset σ r o).length=σ.length:=fun o=>by simp[hset]
 have hfc2:=run_firstCells (P:=P) (w:=w) hR (a:=a2) (len:=ys.length) (cap:=cap2) hl2 (fun hx=>ha2 (list_len_pos hx))
 by_cases hyn:ys=[]
 ·subst hyn
  have hσ:hset σ r (.vec (ty e).sz (xs++[]))=σ:=by rw[List.append_nil];exact hset_same' hg
  have hc0:cc2=[]:=List.eq_nil_of_length_eq_zero (by rw[hl2];simp)
  rw[hσ]
  refine⟨_,K,w,append_room hT ht0 ht1 hk0 hk1 hag type (by simpa using hcap) hfc2 (fun b _=>by subst hc0;rfl) (fun _=>rfl),?_,hR,.refl _ _ _⟩
  exact .vec r _ a cap hr (by simpa using hcap) (by simpa using h1) (by simpa using ha)
 have hyl:0<ys.length:=List.length_pos_iff.2 hyn
 have hall:=len_app_sz hs1 hs2'
 by_cases hle:xs.length+ys.length≤cap
 ·obtain⟨b,o,cells,E,rfl,g2,g3,g4,g5,g6⟩:=hblk (by omega)
  have hle2:(xs.length+ys.length)*(ty e).sz≤cap*(ty e).sz:=Nat.mul_le_mul_right _ hle
  rw[Nat.add_mul] at hle2
  have hst:=run_storeCells_at P b (o+xs.length*(ty e).sz) E cc2 0 cells w g2 (by omega) h2
  simp only[Nat.add_zero] at hst
  let K':Kr:={K with tl:=fun q k=>if q=r∧k=xs.length+ys.length then some (some ⟨b,o,none⟩,cap) else K.tl q k}
  have hext:Ext σ.length K K':=⟨fun _ _=>rfl,fun q hq k x hx=>by
   show(if q=r∧k=xs.length+ys.length then _ else _)=_
   by_cases e:q=r∧k=xs.length+ys.length
   ·obtain⟨e1,e2⟩:=e
    rw[e1,e2,hnew _ (by omega)] at hx;cases hx
   ·rw[if_neg e];exact hx,fun _ _ _ h=>h⟩
  have hK':K'.tl r (xs++ys).length=some (some ⟨b,o,none⟩,cap):=if_pos ⟨rfl,by simp⟩
  obtain⟨r1,r2⟩:=hR.turn (w':=w.setRow b (cells.toList.take (o+xs.length*(ty e).sz)++cc2++cells.toList.drop (o+xs.length*(ty e).sz+cc2.length)).toArray) hg b ⟨_,cap,h1,by omega,rfl⟩ K' hext
   (o':= .vec (ty e).sz (xs++ys))
   (fun q hq=>by funext k;show(if q=r∧k=_ then _ else _)=_;rw[if_neg (fun h=>hq h.1)])
   (fun b' hb=>setRow_other w _ _ _ hb) (setRow_size _ _ _) (fun _ _ _=>rfl) (fun p v hv=>by rw[show K'.S b p=K.S b p from rfl,g6 p] at hv;cases hv)
   (fun b' hb=>by
    obtain⟨a',cap',k1,k2,rfl⟩:=hb
    rw[hK'] at k1;simp at k1;rw[← k1.1])
   ⟨some ⟨b,o,none⟩,cap,hK',by simpa using hle,fun k hk=>by
     simp only[List.length_append] at hk
     show(if r=r∧k=_ then _ else _)=_
     rw[if_neg (by omega)];exact hnew k (by omega),hall,fun _=>⟨b,o,_,E,rfl,setRow_heap w b cells _ E (0,0) g2,by
     simp only[List.size_toArray,List.length_append,List.length_take,List.length_drop,Array.length_toList];omega,by
     have hnew2:((cells.toList.take (o+xs.length*(ty e).sz)++cc2++cells.toList.drop (o+xs.length*(ty e).sz+cc2.length)).drop o).take ((xs++ys).length*(ty e).sz)=(cells.toList.drop o).take (xs.length*(ty e).sz)++cc2:=by
      have hsz2:cells.toList.length=cells.size:=by simp
      rw[List.length_append,Nat.add_mul,← hl2]
      apply List.ext_getElem?
      intro j
      simp only[List.getElem?_take,List.getElem?_drop,List.getElem?_append,List.length_append,List.length_take,List.length_drop,hsz2]
      grind
     simp only[]
     rw[hnew2,List.flatMap_append]
     exact(g4.append hvr2).mono hext (Nat.le_refl _),by
     intro x hx
     simp only[List.mem_append] at hx
     rcases hx with(hx | hx) | hx
     ·exact g5 x (List.mem_of_mem_take hx)
     ·exact h2 x hx
     ·exact g5 x (List.mem_of_mem_drop hx),g6⟩⟩
   rfl rfl rfl (by rw[setRow_heap w b cells _ E (0,0) g2,g2];rfl)
  refine⟨_,K',_,append_room hT ht0 ht1 hk0 hk1 hag type hle hfc2 (fun b' hb=>by simp only[Option.some.injEq] at hb;subst hb;rw[addr_add];exact hst) (fun h=>by cases h),?_,r1,r2⟩
  rw[hsl]
  exact .vec r _ _ cap hr hle (by simpa using hK') (.inr ⟨b,o,rfl⟩)
 ·obtain⟨nc,rest,d,hdd,g1,g2,g2',g3⟩:=append_grow hT ht0 ht1 hk0 hk1 hag hby hzl type (a:=a) (a2:=a2) (cap2:=cap2) (cc:=cc) (cc2:=cc2) (w:=w) (l:=xs.length) (l2:=ys.length) (cap:=cap) (by omega) hbound
   (fun d=>run_firstCellsW hl1 (fun hx=>by obtain⟨b,o,q1,q2⟩:=hrow hx;exact⟨b,o,q1,q2⟩))
   (fun d=>run_firstCells (hR.drew d) hl2 (fun hx=>ha2 (list_len_pos hx)))
  let K':Kr:=K.setT r fun k=>if k=xs.length+ys.length then some (some ⟨w.heap.size,0,none⟩,nc) else K.tl r k
  have hext:Ext σ.length K K':=⟨fun _ _=>rfl,fun q hq k x hx=>by
   simp only[K',Kr.setT]
   by_cases e:q=r
   ·subst e
    rw[if_pos rfl]
    by_cases e2:k=xs.length+ys.length
    ·rw[e2,hnew _ (by omega)] at hx;cases hx
    ·rw[if_neg e2];exact hx
   ·rw[if_neg e];exact hx,fun _ _ _ h=>h⟩
  have hK':K'.tl r (xs++ys).length=some (some ⟨w.heap.size,0,none⟩,nc):=by simp only[K',Kr.setT,if_true];rw[if_pos (by simp)]
  have htot:(cc++cc2++rest).length=nc*(ty e).sz:=by
   simp only[List.length_append,g2]
   have:nc*(ty e).sz=xs.length*(ty e).sz+ys.length*(ty e).sz+(nc- (xs.length+ys.length))*(ty e).sz:=by rw[← Nat.add_mul,← Nat.add_mul];congr 1;omega
   omega
  obtain⟨r1,r2⟩:=(hR.drew d).newAt (σ':=hset σ r (.vec (ty e).sz (xs++ys))) r (.vec (ty e).sz (xs++ys)) (.cells (cc++cc2++rest).toArray e (0,0)) K' hext (by rw[hsl];exact Nat.le_refl _) (by rw[hsl];exact hr) (hset_get_same hr) (fun q o' hq hg=>hset_get_other hq hg)
   (fun q hq=>by simp only[K',Kr.setT];rw[if_neg hq]) (fun b p v hv=> .inl hv)
   (fun b hb=>by
    obtain⟨a',cap',k1,k2,rfl⟩:=hb
    rw[hK'] at k1;simp at k1;rw[← k1.1])
   ⟨_,nc,hK',by simpa using g1,fun k hk=>by
     simp only[List.length_append] at hk
     simp only[K',Kr.setT,if_true];rw[if_neg (by omega)];exact hnew k (by omega),hall,fun _=>⟨w.heap.size,0,_,e,rfl,heap_alloc_new _ _,by
     simp only[Nat.zero_add,List.size_toArray,htot];exact Nat.le_refl _,by
     simp only[List.drop_zero]
     have hl12:(xs++ys).length*(ty e).sz=(cc++cc2).length:=by simp only[List.length_append,Nat.add_mul,hl1,hl2]
     rw[hl12,List.take_left',List.flatMap_append]
     ·rw[hsl];exact(hvr1.append hvr2).mono hext (Nat.le_refl _)
     ·rfl,by
     intro x hx
     simp only[List.mem_append] at hx
     rcases hx with(hx | hx) | hx
     ·exact hone x hx
     ·exact h2 x hx
     ·exact g2' x hx,fun p=>by
     cases hk:K.S w.heap.size p with
     | none=>exact hk
     | some v=>have:=hR.lt hk;omega⟩⟩
  refine⟨_,K',_,g3,?_,r1,r2.drew d⟩
  rw[hsl]
  exact .vec r _ _ nc hr g1 (by simpa using hK') (.inr ⟨_,_,rfl⟩)
end Go.Mu
namespace Go.Mu
open Go
variable {P:Program}{K:Kr}{n:Nat}{ty:Nat→TI}
def EntL(K:Kr)(n:Nat)(es:List (AV×AV))(es':List MapEntry):Prop:=
 es.length=es'.length∧∀i (h:i<es.length) (h':i<es'.length),VR K n (es[i]).1 (es'[i]).key∧VR K n (es[i]).2 (es'[i]).val
theorem bytes_same(a b:ByteArray):(a==b)=true↔a=b:=by
 obtain⟨x⟩:=a
 obtain⟨y⟩:=b
 constructor
 ·intro h
  have e:x=y:=by simpa using(show(x==y)=true from h)
  rw[e]
 ·intro h
  cases h
  show(x==x)=true
  simp
theorem keyEq_int{k:IntKind}{x:Int}{k':AV}{t:Bool}(h:keyEq (.int k x) k'=some t):∃y,k'= .int k y∧t=(x==y):=by
 unfold keyEq at h
 split at h
 ·rename_i e
  simp only[AV.int.injEq] at e
  obtain⟨rfl,rfl⟩:=e
  split at h
  ·rename_i e2;subst e2;simp at h;exact⟨_,rfl,h.symm⟩
  ·cases h
 all_goals (first | (cases h;done) | (rename_i e;cases e))
theorem keyEq_str{x:ByteArray}{k':AV}{t:Bool}(h:keyEq (.str x) k'=some t):∃y,k'= .str y∧t=(x==y):=by
 unfold keyEq at h
 split at h
 ·rename_i e;cases e
 ·rename_i e
  simp only[AV.str.injEq] at e
  subst e
  simp only[Option.some.injEq] at h;exact⟨_,rfl,h.symm⟩
 ·rename_i e;cases e
 ·cases h
theorem keyEq_agg{cs:List AV}{xs:List Int}{k':AV}{t:Bool}(hx:intsA cs=some xs)(h:keyEq (.agg cs) k'=some t):∃cs2 ys,k'= .agg cs2∧intsA cs2=some ys∧cs.length=cs2.length∧t=(xs==ys):=by
 unfold keyEq at h
 split at h
 ·rename_i e;cases e
 ·rename_i e;cases e
 ·rename_i a b e
  simp only[AV.agg.injEq] at e
  subst e
  rw[hx] at h
  cases hx2:intsA b with
  | none=>rw[hx2] at h;cases h
  | some ys=>
   rw[hx2] at h
   simp only at h
   split at h
   ·rename_i e;simp only[Option.some.injEq] at h;exact⟨_,_,rfl,hx2,e,h.symm⟩
   ·cases h
 ·cases h
theorem isInt_inv{k:TK}(h:isInt k=true):∃kk,k= .int kk:=by cases k<;> simp[isInt] at h;exact⟨_,rfl⟩
theorem isStrK_inv{k:TK}(h:isStrK k=true):k= .str:=by cases k<;> simp[isStrK] at h;rfl
theorem run_getMap{w:World}{b:Nat}{es:Array MapEntry}{c:Nat}(h:w.heap[b]? = some (.map es c)):(getObj b).run P w= .ok (.map es c) w:=by
 simp[getObj,Sem.run,h]
theorem run_setMap{w:World}{b:Nat}{es:Array MapEntry}{c:Nat}(o':Obj)(h:w.heap[b]? = some (.map es c)):(setObj b o').run P w= .ok () {w with heap:=w.heap.setIfInBounds b o'}:=by
 simp[setObj,Sem.run,h]
def FindR(K:Kr)(n i:Nat)(c:Value)(es':List MapEntry):Option (Nat×AV)→Option (Nat×Value)→Prop
 | none,none=>True
 | some (j,v),some (j',v')=>j=j'∧i≤j∧j<i+es'.length∧VR K n v v'∧(es'[j-i]?).map (·.key)=some c
 | _,_=>False
theorem EntL.tl{k' v:AV}{e:MapEntry}{es:List (AV×AV)}{es':List MapEntry}(h:EntL K n ((k',v)::es) (e::es')):EntL K n es es':=
 ⟨by have:=h.1;simp at this;exact this,fun j a b=>by
  have:=h.2 (j+1) (by simp;exact a) (by simp;exact b)
  simpa using this⟩
theorem FindR.tl{i:Nat}{c:Value}{e:MapEntry}{es':List MapEntry}:∀{r:Option (Nat×AV)} {r':Option (Nat×Value)},FindR K n (i+1) c es' r r'→FindR K n i c (e::es') r r'
 | none,none,_=>trivial
 | some (j,v),some (j',v'),⟨a1,a2,a3,a4,a7⟩=>by
  refine⟨a1,by omega,by simp;omega,a4,?_⟩
  have:j-i=(j- (i+1))+1:=by omega
  rw[this];simpa using a7
theorem findNow_gen{d:TypeDesc}{key:AV}{c:Value}(hs:∀k' ck t,VR K n k' ck→keyEq key k'=some t→Instr.sameNow d c ck=some t∧(t=true→ck=c)):∀(es:List (AV×AV)) (es':List MapEntry) (i:Nat) (r:Option (Nat×AV)),EntL K n es es'→findA key es i=some r→
  ∃r',Instr.findNow d c es' i=some r'∧FindR K n i c es' r r'
 | [],es',i,r,hE,h=>by
  simp[findA] at h;subst h
  have:es'=[]:=List.length_eq_zero_iff.1 hE.1.symm
  subst this
  exact⟨none,rfl,trivial⟩
 | (k',v)::es,[],i,r,hE,h=>absurd hE.1 (by simp)
 | (k',v)::es,e::es',i,r,hE,h=>by
  simp only[findA] at h
  obtain⟨g1,g2⟩:=hE.2 0 (by simp) (by simp)
  simp only[List.getElem_cons_zero] at g1 g2
  cases hq:keyEq key k' with
  | none=>rw[hq] at h;cases h
  | some t=>
   rw[hq] at h
   obtain⟨q1,q2⟩:=hs _ _ _ g1 hq
   simp only[Instr.findNow,q1]
   cases t with
   | true=>
    simp at h;subst h
    exact⟨_,rfl,rfl,Nat.le_refl _,by simp,g2,by simp[q2 rfl]⟩
   | false=>
    simp only at h
    obtain⟨r',h1,h2⟩:=findNow_gen hs es es' (i+1) r hE.tl h
    exact⟨r',h1,h2.tl⟩
theorem findAsk_gen{kt:TypeId}{key:AV}{c:Value}(hs:∀k' ck t w,VR K n k' ck→keyEq key k'=some t→(Op.equal kt c ck).run P w= .ok t w∧(t=true→ck=c))(w:World):∀(es:List (AV×AV)) (es':List MapEntry) (i:Nat) (r:Option (Nat×AV)),EntL K n es es'→findA key es i=some r→
  ∃r',(Instr.findAsking kt c es' i).run P w= .ok r' w∧FindR K n i c es' r r'
 | [],es',i,r,hE,h=>by
  simp[findA] at h;subst h
  have:es'=[]:=List.length_eq_zero_iff.1 hE.1.symm
  subst this
  exact⟨none,by simp[Instr.findAsking],trivial⟩
 | (k',v)::es,[],i,r,hE,h=>absurd hE.1 (by simp)
 | (k',v)::es,e::es',i,r,hE,h=>by
  simp only[findA] at h
  obtain⟨g1,g2⟩:=hE.2 0 (by simp) (by simp)
  simp only[List.getElem_cons_zero] at g1 g2
  cases hq:keyEq key k' with
  | none=>rw[hq] at h;cases h
  | some t=>
   rw[hq] at h
   obtain⟨q1,q2⟩:=hs _ _ _ w g1 hq
   simp only[Instr.findAsking,Sem.run_bind,q1,Result.andThen_ok]
   cases t with
   | true=>
    simp at h;subst h
    exact⟨_,rfl,rfl,Nat.le_refl _,by simp,g2,by simp[q2 rfl]⟩
   | false=>
    simp only at h
    obtain⟨r',h1,h2⟩:=findAsk_gen hs w es es' (i+1) r hE.tl h
    exact⟨r',by simpa using h1,h2.tl⟩
theorem keyOK_agg{i:TI}{cs:List AV}(h:keyOK i (.agg cs)=true):i.keyn=true∧cs.length=i.sz∧∃xs,intsA cs=some xs:=by
 simp only[keyOK,Bool.and_eq_true,beq_iff_eq,Option.isSome_iff_exists] at h
 exact h
theorem keyVR{cs:List AV}{xs:List Int}{c:Value}(hx:intsA cs=some xs)(hv:VR K n (.agg cs) c):c= .agg (xs.map (.int .i64)).toArray∧xs.length=cs.length:=by
 cases hv with
 | agg _ cs' hl h1 h=>
  have:=intsA_sound hx ⟨hl,h⟩
  subst this
  exact⟨rfl,by simpa using hl.symm⟩
theorem findKey_sound(hT:TysOK P ty)(hQ:EqsOK P ty){kt:TypeId}{key:AV}{c:Value}(hk:keyOK (ty kt) key=true)(hv:VR K n key c){es:List (AV×AV)}{es':List MapEntry}{r:Option (Nat×AV)}(hE:EntL K n es es')(h:findA key es 0=some r)(w:World) :
  ∃r',(Instr.findKey kt c es').run P w= .ok r' w∧FindR K n 0 c es' r r':=by
 cases key with
 | int k x=>
  obtain⟨kk,hkk⟩:=isInt_inv hk
  obtain⟨d2,hd2,hu2⟩:=run_under hT (t:=kt) (by rw[hkk];simp)
  rw[hkk] at hd2;simp only[KdOK] at hd2;subst hd2
  cases hv
  obtain⟨r',g1,g2⟩:=findNow_gen (K:=K) (n:=n) (d:= .int kk) (key:= .int k x) (c:= .int k x) (fun k' ck t hvk hq=>by
   obtain⟨y,rfl,rfl⟩:=keyEq_int hq
   cases hvk
   exact⟨by simp[Instr.sameNow],fun h=>by simp at h;rw[h]⟩) es es' 0 r hE h
  exact⟨r',by simp only[Instr.findKey,Sem.run_bind,hu2 w,Result.andThen_ok,g1,Sem.run_pure],g2⟩
 | str x=>
  have hkk:=isStrK_inv hk
  obtain⟨d2,hd2,hu2⟩:=run_under hT (t:=kt) (by rw[hkk];simp)
  rw[hkk] at hd2;simp only[KdOK] at hd2;subst hd2
  cases hv
  obtain⟨r',g1,g2⟩:=findNow_gen (K:=K) (n:=n) (d:= .string) (key:= .str x) (c:= .string x) (fun k' ck t hvk hq=>by
   obtain⟨y,rfl,rfl⟩:=keyEq_str hq
   cases hvk
   exact⟨by simp only[Instr.sameNow],fun h=>by rw[(bytes_same x y).1 h]⟩) es es' 0 r hE h
  exact⟨r',by simp only[Instr.findKey,Sem.run_bind,hu2 w,Result.andThen_ok,g1,Sem.run_pure],g2⟩
 | agg cs=>
  obtain⟨hn,hl,xs,hx⟩:=keyOK_agg hk
  obtain⟨d2,hd2,hu2⟩:=run_under hT (hQ.kkd kt hn)
  obtain⟨rfl,hxl⟩:=keyVR hx hv
  obtain⟨r',g1,g2⟩:=findAsk_gen (P:=P) (K:=K) (n:=n) (kt:=kt) (key:= .agg cs) (c:= .agg (xs.map (.int .i64)).toArray) (fun k' ck t w hvk hq=>by
   obtain⟨cs2,ys,rfl,hx2,e,rfl⟩:=keyEq_agg hx hq
   obtain⟨rfl,hyl⟩:=keyVR hx2 hvk
   exact⟨hQ.keq kt hn xs ys w (by omega) (by omega),fun h=>by simp at h;rw[h]⟩) w es es' 0 r hE h
  refine⟨r',?_,g2⟩
  have hfn:Instr.findNow d2 (.agg (xs.map (.int .i64)).toArray) es' 0=some r'∨Instr.findNow d2 (.agg (xs.map (.int .i64)).toArray) es' 0=none:=by
   cases es' with
   | nil=>
    simp[Instr.findAsking] at g1
    exact .inl (by simp[Instr.findNow,g1])
   | cons e es'=>right;cases d2<;> simp[Instr.findNow,Instr.sameNow]
  rcases hfn with hfn | hfn
  ·simp only[Instr.findKey,Sem.run_bind,hu2 w,Result.andThen_ok,hfn,Sem.run_pure]
  ·simp only[Instr.findKey,Sem.run_bind,hu2 w,Result.andThen_ok,hfn,g1]
 | _=>simp[keyOK] at hk
theorem checkKey_sound(hT:TysOK P ty)(hQ:EqsOK P ty){kt:TypeId}{key:AV}{c:Value}(hk:keyOK (ty kt) key=true)(hv:VR K n key c)(e:Bool)(w:World):(Instr.checkKey e 10000 kt c).run P w= .ok () w:=by
 have one:∀(m:Nat) (d:TypeDesc),0<m→(∀w,(underlying kt).run P w= .ok d w)→(∃kk,d= .int kk)∨d= .string→(∀x,c≠ .agg x)→(Instr.checkKey e m kt c).run P w= .ok () w:=by
  intro m d hm hu hd hc
  cases m with
  | zero=>omega
  | succ m=>rcases hd with⟨kk,rfl⟩ | rfl<;> simp only[Instr.checkKey,Sem.run_bind,hu w,Result.andThen_ok,Sem.run_pure]
 cases key with
 | int k x=>
  obtain⟨kk,hkk⟩:=isInt_inv hk
  obtain⟨d2,hd2,hu2⟩:=run_under hT (t:=kt) (by rw[hkk];simp)
  rw[hkk] at hd2;simp only[KdOK] at hd2;subst hd2
  cases hv
  exact one _ _ (by omega) hu2 (.inl ⟨_,rfl⟩) (by simp)
 | str x=>
  have hkk:=isStrK_inv hk
  obtain⟨d2,hd2,hu2⟩:=run_under hT (t:=kt) (by rw[hkk];simp)
  rw[hkk] at hd2;simp only[KdOK] at hd2;subst hd2
  cases hv
  exact one _ _ (by omega) hu2 (.inr rfl) (by simp)
 | agg cs=>
  obtain⟨hn,hl,xs,hx⟩:=keyOK_agg hk
  obtain⟨rfl,hxl⟩:=keyVR hx hv
  exact hQ.kck kt hn e xs w (by omega)
 | _=>simp[keyOK] at hk
theorem sameBits_ints(m:Nat)(xs:List Int):Instr.sameBits (m+2) (.agg (xs.map (.int .i64)).toArray) (.agg (xs.map (.int .i64)).toArray)=true:=by
 simp only[Instr.sameBits,beq_self_eq_true,Bool.true_and,List.all_eq_true]
 rintro⟨a,b⟩ h
 have:a=b∧∃x,a= .int .i64 x:=by
  simp only[List.zip_map',List.mem_map,Prod.mk.injEq] at h
  obtain⟨x,_,rfl,rfl⟩:=h
  exact⟨rfl,x,rfl⟩
 obtain⟨rfl,x,rfl⟩:=this
 simp[Instr.sameBits]
theorem keyStays_sound{i:TI}{key:AV}{c:Value}(hk:keyOK i key=true)(hv:VR K n key c)(w:World):(Instr.keyThatStays c c).run P w= .ok c w:=by
 have hs:Instr.sameBits 10000 c c=true:=by
  cases key with
  | int k x=>cases hv;simp[Instr.sameBits]
  | str x=>cases hv;simp only[Instr.sameBits];exact(bytes_same x x).2 rfl
  | agg cs=>
   obtain⟨_,_,xs,hx⟩:=keyOK_agg hk
   obtain⟨rfl,_⟩:=keyVR hx hv
   exact sameBits_ints 9998 xs
  | _=>simp[keyOK] at hk
 simp[Instr.keyThatStays,hs]
theorem EntR.toL{es:List (AV×AV)}{es':Array MapEntry}{clock:Nat}(h:EntR K n es es' clock):EntL K n es es'.toList:=
 ⟨by rw[h.1];simp,fun i a b=>by
  obtain⟨h1,h2,_⟩:=h.2.2 i a (by simpa using b)
  exact⟨by simpa using h1,by simpa using h2⟩⟩
theorem cell_of_map{w:World}{b p:Nat}{es:Array MapEntry}{c:Nat}(h:w.heap[b]? = some (.map es c)):w.cell? ⟨b,p,none⟩= none:=by simp[World.cell?,h]
theorem cell_of_iter{w:World}{b p:Nat}{m:Option Nat}{x:Array Nat}{c d:Nat}(h:w.heap[b]? = some (.mapIter m c x d)):w.cell? ⟨b,p,none⟩= none:=by simp[World.cell?,h]
theorem R.turnFlat{σ:List AObj}{w:World}(hR:R K σ w){r:Nat}{o:AObj}(hg:hget σ r=some o)(hb:ObjBlk K r o (K.φ r))(hc:∀p,w.cell? ⟨K.φ r,p,none⟩= none)(hlt:K.φ r<w.heap.size)(o':AObj)(co:Obj)(hB:∀b,ObjBlk K r o' b→b=K.φ r)
  (hz:frz w.heap[K.φ r]? = frz (some co)) (hO:∀w':World,w'.heap[K.φ r]? = some co→ObjR K σ.length w' r o') :
  R K (hset σ r o') {w with heap:=w.heap.setIfInBounds (K.φ r) co}∧Step K σ w K (hset σ r o') {w with heap:=w.heap.setIfInBounds (K.φ r) co}:=by
 have hS:∀p,K.S (K.φ r) p=none:=fun p=>by
  cases hk:K.S (K.φ r) p with
  | none=>rfl
  | some v=>have:=hR.stab _ _ _ hk;rw[hc p] at this;cases this
 refine hR.turn hg (K.φ r) hb K (.refl _ _) (fun _ _=>rfl) (fun b hb=>?_) (by simp) (fun _ _ _=>rfl) (fun p v hv=>by rw[hS p] at hv;cases hv) hB (hO _ ?_) rfl rfl rfl (by
  show frz (w.heap.setIfInBounds (K.φ r) _)[K.φ r]? = _
  rw[Array.getElem?_setIfInBounds_self,if_pos hlt,hz])
 ·show(w.heap.setIfInBounds (K.φ r) _)[b]? = _
  rw[Array.getElem?_setIfInBounds_ne (Ne.symm hb)]
 ·show(w.heap.setIfInBounds (K.φ r) _)[K.φ r]? = _
  simp[hlt]
theorem makeMap_sound{σ:List AObj}{w:World}(hR:R K σ w){t:TypeId} :
  ∃c K' w',(Instr.makeMap t none).run P w= .ok c w'∧VR K' (σ.length+1) (.map σ.length) c∧R K' (σ++[.map []]) w'∧Step K σ w K' (σ++[.map []]) w':=by
 obtain⟨r1,r2⟩:=hR.new (.map []) (.map #[] 0) (K.setφ σ.length w.heap.size) (Ext.setφ K _ _) (fun _ _=>rfl) (fun b p v hv=> .inl hv) (fun b hb=>by
  have:b=(K.setφ σ.length w.heap.size).φ σ.length:=hb
  simpa only[Kr.setφ,if_true] using this) ⟨#[],0,by simp only[Kr.setφ,if_true];exact heap_alloc_new w _,rfl,rfl,fun i h=>by simp at h⟩
 refine⟨.map (some w.heap.size),_,_,?_,?_,r1,r2⟩
 ·simp only[Instr.makeMap,Sem.run_bind,Result.andThen_ok,Sem.run_pure];rfl
 ·have:=VR.map (K:=K.setφ σ.length w.heap.size) (n:=σ.length+1) σ.length (by omega)
  simpa[Kr.setφ] using this
theorem lookup_sound(hT:TysOK P ty)(hQ:EqsOK P ty){σ:List AObj}{w:World}(hR:R K σ w){t kt et r:Nat}{es:List (AV×AV)}(hk:(ty t).kd= .map kt et){key:AV}(hi:keyOK (ty kt) key=true)(he:(ty et).kd≠ .other)(hg:hget σ r=some (.map es)){c:Value}(hv:VR K σ.length key c){ok:Bool}{v:AV}{σ':List AObj}
  (h:lookR ok (ty et).zero σ (findA key es 0)=some (v,σ')):∃c',(Instr.lookup t (.map (some (K.φ r))) c ok).run P w= .ok c' w∧VR K σ.length v c'∧σ'=σ:=by
 obtain⟨d,hd,hu⟩:=run_under hT (t:=t) (by rw[hk];simp)
 rw[hk] at hd
 simp only[KdOK] at hd
 subst hd
 obtain⟨z,hz,hzr⟩:=run_zero (K:=K) (n:=σ.length) hT he
 obtain⟨es',clock,h1,h2⟩:=hR.obj r _ hg
 cases hf:findA key es 0 with
 | none=>rw[hf] at h;cases h
 | some q=>
  rw[hf] at h
  obtain⟨r',g1,g2⟩:=findKey_sound hT hQ hi hv h2.toL hf w
  have hck:=checkKey_sound hT hQ hi hv es'.isEmpty w
  match q,r',g2 with
  | none,none,_=>
   simp only[lookR,Option.some.injEq,Prod.mk.injEq] at h
   obtain⟨rfl,rfl⟩:=h
   refine⟨if ok then .tuple #[z,.bool false] else z,?_,?_,rfl⟩
   ·simp only[Instr.lookup,Sem.run_bind,hu w,Result.andThen_ok,run_getMap h1,Sem.run_pure,hck,g1,hzr w]
   ·cases ok
    ·exact hz
    ·exact VRs.tup (cs:=#[z,.bool false]) (.cons hz (.cons (.bool _) .nil))
  | some (j,v0),some (j',v'),⟨_,_,_,a4,_⟩=>
   simp only[lookR,Option.some.injEq,Prod.mk.injEq] at h
   obtain⟨rfl,rfl⟩:=h
   refine⟨if ok then .tuple #[v',.bool true] else v',?_,?_,rfl⟩
   ·simp only[Instr.lookup,Sem.run_bind,hu w,Result.andThen_ok,run_getMap h1,Sem.run_pure,hck,g1]
   ·cases ok
    ·exact a4
    ·exact VRs.tup (cs:=#[v',.bool true]) (.cons a4 (.cons (.bool _) .nil))
theorem update_sound(hT:TysOK P ty)(hQ:EqsOK P ty){σ:List AObj}{w:World}(hR:R K σ w){t kt et r:Nat}{es:List (AV×AV)}(hk:(ty t).kd= .map kt et){key v:AV}(hi:keyOK (ty kt) key=true)(hg:hget σ r=some (.map es)){c cv:Value}(hv:VR K σ.length key c)(hvv:VR K σ.length v cv){u:AV}{σ':List AObj}
  (h:updR r es key v σ (findA key es 0)=some (u,σ')):∃w',(Instr.mapUpdate t (.map (some (K.φ r))) c cv).run P w= .ok () w'∧u= .tup []∧R K σ' w'∧Step K σ w K σ' w':=by
 obtain⟨d,hd,hu⟩:=run_under hT (t:=t) (by rw[hk];simp)
 rw[hk] at hd
 simp only[KdOK] at hd
 subst hd
 obtain⟨es',clock,h1,h2⟩:=hR.obj r _ hg
 have hlt:=lt_of_heap h1
 cases hf:findA key es 0 with
 | none=>rw[hf] at h;cases h
 | some q=>
  rw[hf] at h
  obtain⟨r',g1,g2⟩:=findKey_sound hT hQ hi hv h2.toL hf w
  have hck:=checkKey_sound hT hQ hi hv false w
  match q,r',g2 with
  | none,none,_=>
   simp only[updR,Option.some.injEq,Prod.mk.injEq] at h
   obtain⟨rfl,rfl⟩:=h
   obtain⟨r1,r2⟩:=hR.turnFlat hg rfl (fun p=>cell_of_map h1) hlt (.map (es++[(key,v)])) (.map (es'.push {key:=c,val:=cv,born:=clock}) (clock+1)) (fun b hb=>hb) (by rw[h1];rfl) (fun w' hw'=>⟨_,_,hw',by simp[h2.1],by simp[h2.2.1],fun i a b=>by
    have hb:i<es'.size+1:=by simpa using b
    by_cases e:i<es'.size
    ·have e':i<es.length:=by rw[h2.1];exact e
     rw[List.getElem_append_left e',Array.getElem_push_lt e]
     exact h2.2.2 i e' e
    ·have e1:i=es.length:=by rw[h2.1];omega
     subst e1
     have e2:(es++[(key,v)])[es.length]=(key,v):=by simp
     have e3:(es'.push {key:=c,val:=cv,born:=clock})[es.length]= {key:=c,val:=cv,born:=clock}:=by
      have:=h2.1
      simp[this]
     rw[e2,e3]
     exact⟨hv,hvv,by rw[h2.2.1,h2.1]⟩⟩)
   refine⟨_,?_,rfl,r1,r2⟩
   simp only[Instr.mapUpdate,Sem.run_bind,hu w,Result.andThen_ok,run_getMap h1,hck,g1,run_setMap _ h1]
  | some (j,v0),some (j',v'),⟨a1,_,a3,a4,a7⟩=>
   simp only[updR,Option.some.injEq,Prod.mk.injEq] at h
   obtain⟨rfl,rfl⟩:=h
   subst a1
   simp at a3
   have hj:j<es.length:=by rw[h2.1];exact a3
   have a7':(es'[j]?).map (·.key)=some c:=by simpa using a7
   have hst:(Instr.keyThatStays (((es'[j]?).map (·.key)).getD c) c).run P w= .ok c w:=by
    rw[a7']
    exact keyStays_sound hi hv w
   obtain⟨r1,r2⟩:=hR.turnFlat hg rfl (fun p=>cell_of_map h1) hlt (.map (es.set j (key,v))) (.map (es'.modify j fun e=>{e with key:=c,val:=cv}) clock) (fun b hb=>hb) (by rw[h1];rfl) (fun w' hw'=>⟨_,_,hw',by simp[h2.1],by simp[h2.2.1],fun i a b=>by
    have hi1:i<es.length:=by simpa using a
    have hi2:i<es'.size:=by simpa using b
    rw[List.getElem_set,Array.getElem_modify]
    by_cases e:j=i
    ·subst e;simp only[if_true]
     exact⟨hv,hvv,(h2.2.2 j hi1 hi2).2.2⟩
    ·simp only[if_neg e]
     exact h2.2.2 i hi1 hi2⟩)
   refine⟨_,?_,rfl,r1,r2⟩
   simp only[Instr.mapUpdate,Sem.run_bind,hu w,Result.andThen_ok,run_getMap h1,hck,g1,hst,run_setMap _ h1]
theorem range_sound(hT:TysOK P ty){σ:List AObj}{w:World}(hR:R K σ w){t kt et r:Nat}{es:List (AV×AV)}(hk:(ty t).kd= .map kt et)(hg:hget σ r=some (.map es)) :
  ∃c K' w',(Instr.range t (.map (some (K.φ r)))).run P w= .ok c w'∧VR K' (σ.length+1) (.ptr σ.length 0) c∧R K' (σ++[.iter (some r) es.length []]) w'∧Step K σ w K' (σ++[.iter (some r) es.length []]) w':=by
 obtain⟨d,hd,hu⟩:=run_under hT (t:=t) (by rw[hk];simp)
 rw[hk] at hd
 simp only[KdOK] at hd
 subst hd
 obtain⟨es',clock,h1,h2⟩:=hR.obj r _ hg
 have hr:=hget_lt hg
 have hcl:clock=es.length:=by rw[h2.2.1,h2.1]
 subst hcl
 obtain⟨r1,r2⟩:=hR.new (.iter (some r) es.length []) (.mapIter (some (K.φ r)) es.length #[] es.length) (K.setφ σ.length w.heap.size) (Ext.setφ K _ _) (fun _ _=>rfl) (fun b p v hv=> .inl hv) (fun b hb=>by
  have:b=(K.setφ σ.length w.heap.size).φ σ.length:=hb
  simpa only[Kr.setφ,if_true] using this) ⟨some (K.φ r),by simp only[Kr.setφ,if_true];exact heap_alloc_new w _,by omega,by simp only[Kr.setφ];rw[if_neg (by omega)]⟩
 refine⟨.pointer (some ⟨w.heap.size,0,none⟩),_,_,?_,?_,r1,r2⟩
 ·simp only[Instr.range,Sem.run_bind,hu w,Result.andThen_ok,run_getMap h1,Sem.run_pure];rfl
 ·have:=VR.ptr (K:=K.setφ σ.length w.heap.size) (n:=σ.length+1) σ.length 0 (by omega)
  simpa[Kr.setφ] using this
end Go.Mu
