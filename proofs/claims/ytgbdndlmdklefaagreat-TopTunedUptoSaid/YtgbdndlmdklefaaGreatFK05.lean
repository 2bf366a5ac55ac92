/- Part KN of the abstract layer: a step of a range over a map. -/
import Derived.Test.YtgbdndlmdklefaaGreatFK04
import Derived.Test.YtgbdndlmdklefaaGreatFK03
import Derived.Laws.BytesArg
import Derived.CallsIn
import Derived.Conc.Events
set_option linter.unusedSimpArgs false
set_option linter.unusedVariables false
namespace Go.Mu
open Go
variable {P:Program}{K:Kr}{n:Nat}{ty:Nat→TI}
def nextA(X:AV→List AObj→Prop)(σ:List AObj):Option AV→Prop
 | some (.ptr r 0)=>match hget σ r with
  | some (.iter (some q) c seen)=>match hget σ q with
   | some (.map es)=>c=es.length∧(∀i k v,es[i]? = some (k,v)→i∉seen→X (.tup [.bool true,k,v]) (hset σ r (.iter (some q) c (seen++[i]))))∧((∀i,i<es.length→i∈seen)→X (.tup [.bool false]) σ)
   | _=>False
  | _=>False
 | _=>False
theorem filter_all{α:Type}{p:α→Bool}{xs:Array α}(h:∀i (h:i<xs.size),p xs[i]=true):xs.filter p=xs:=by
 rw[Array.filter_eq_self]
 intro a ha
 obtain⟨i,hi,rfl⟩:=Array.mem_iff_getElem.1 ha
 exact h i hi
theorem filter_none{α:Type}{p:α→Bool}{xs:Array α}(h:∀i (h:i<xs.size),p xs[i]=false):xs.filter p= #[]:=by
 rw[Array.filter_eq_empty_iff]
 intro a ha
 obtain⟨i,hi,rfl⟩:=Array.mem_iff_getElem.1 ha
 simp[h i hi]
theorem run_getIter{w:World}{b:Nat}{m:Option Nat}{c d:Nat}{s:Array Nat}(h:w.heap[b]? = some (.mapIter m c s d)):(getObj b).run P w= .ok (.mapIter m c s d) w:=by
 simp[getObj,Sem.run,h]
theorem run_setIter{w:World}{b:Nat}{m:Option Nat}{c d:Nat}{s:Array Nat}(o':Obj)(h:w.heap[b]? = some (.mapIter m c s d)):(setObj b o').run P w= .ok () {w with heap:=w.heap.setIfInBounds b o'}:=by
 simp[setObj,Sem.run,h]
theorem length_hset'{σ:List AObj}{r:Nat}{o:AObj}:(hset σ r o).length=σ.length:=by unfold hset;simp
theorem mapNext_sound{σ:List AObj}{w:World}(hR:R K σ w){a:AV}{ca:Value}(ha:VR K σ.length a ca){T:TypeId}{X:AV→List AObj→Prop}(hX:nextA X σ (some a)) :
  ∃v σ' c' w',(Instr.next ca false T).run P w= .ok c' w'∧X v σ'∧VR K σ'.length v c'∧R K σ' w'∧Step K σ w K σ' w':=by
 unfold nextA at hX
 split at hX
 ·rename_i r he
  simp at he;subst he
  split at hX
  ·rename_i q c seen hg
   split at hX
   ·rename_i es hq
    obtain⟨hc,h1,h2⟩:=hX
    subst hc
    obtain⟨hr,rfl⟩:=ha.ptr_inv
    obtain⟨m',g1,g2⟩:=hR.obj r _ hg
    obtain⟨g3,rfl⟩:=g2
    obtain⟨es',clock,k1,k2⟩:=hR.obj q _ hq
    have hcl:clock=es.length:=by rw[k2.2.1,k2.1]
    subst hcl
    have hsz:es'.size=es.length:=k2.1.symm
    have hborn:∀i (h:i<es'.size),(es'[i]).born=i:=fun i h=>(k2.2.2 i (by omega) h).2.2
    let L:=es'.filter fun e=> !seen.toArray.contains e.born
    have hLmem:∀i (h:i<L.size),∃j,∃hj:j<es'.size,L[i]=es'[j]∧j∉seen:=fun i h=>by
     have hm:L[i]∈L:=Array.getElem_mem h
     obtain⟨hm1,hm2⟩:=Array.mem_filter.1 hm
     obtain⟨j,hj,e⟩:=Array.mem_iff_getElem.1 hm1
     refine⟨j,hj,e.symm,fun hs=>?_⟩
     rw[← e,hborn j hj] at hm2
     simp[hs] at hm2
    have hold:L.filter (fun e=>decide (e.born<es.length))=L:=filter_all fun i h=>by
     obtain⟨j,hj,e,_⟩:=hLmem i h
     rw[e,hborn j hj];simp;omega
    have hnew:L.filter (fun e=>decide (e.born≥es.length))= #[]:=filter_none fun i h=>by
     obtain⟨j,hj,e,_⟩:=hLmem i h
     rw[e,hborn j hj];simp;omega
    have hguard:(!seen.toArray.isEmpty&& !es'.isEmpty&&es'.all (fun e=>decide (e.born≥es.length)))=false:=by
     by_cases hz:es'.size=0
     ·have:es'= #[]:=Array.eq_empty_of_size_eq_zero hz
      subst this;simp
     ·have h0:0<es'.size:=by omega
      have:es'.all (fun e=>decide (e.born≥es.length))=false:=by
       rw[Array.all_eq_false]
       refine⟨0,h0,?_⟩
       rw[hborn 0 h0,decide_eq_true_eq];omega
      rw[this];simp
    have hrun0:(Instr.next (.pointer (some ⟨K.φ r,0,none⟩)) false T).run P w=((choose (.mapNext ((if L.isEmpty then #[none] else #[])++L.map some).size)).run P w).andThen fun n w1=>(match ((if L.isEmpty then #[none] else #[])++L.map some)[n]? with
      | some (some e)=>(do setObj (K.φ r) (.mapIter (some (K.φ q)) es.length (seen.toArray.push e.born) es.length);pure (.tuple #[.bool true,e.key,e.val]):Sem Value)
      | some none=>pure (.tuple #[.bool false])
      | none=>stuck "Next: no such candidate").run P w1:=by
     have hL1:(es'.filter fun e=> !seen.toArray.contains e.born).filter (fun e=>decide (e.born<es.length))=L:=hold
     have hL2:(es'.filter fun e=> !seen.toArray.contains e.born).filter (fun e=>decide (e.born≥es.length))= #[]:=hnew
     simp only[Instr.next,Sem.run_bind,run_getIter g1,Result.andThen_ok,run_getMap k1,hguard,Bool.false_eq_true,if_false,hL1,hL2,Array.append_empty]
     rfl
    by_cases hem:L.isEmpty
    ·refine⟨.tup [.bool false],σ,.tuple #[.bool false],w,?_,h2 fun i hi=>?_,VRs.tup (cs:=#[.bool false]) (.cons (.bool _) .nil),hR,.refl _ _ _⟩
     ·rw[hrun0]
      have:L= #[]:=by simpa using hem
      rw[this]
      simp[run_choose,Question.forced]
     ·have:L= #[]:=by simpa using hem
      apply Classical.byContradiction
      intro hs
      have hm:es'[i]'(by omega)∈L:=Array.mem_filter.2 ⟨Array.getElem_mem _,by rw[hborn i (by omega)];simp[hs]⟩
      rw[this] at hm;simp at hm
    ·have hpos:0<L.size:=by
      cases hz:L.size with
      | zero=>exact absurd (by simpa using hz) hem
      | succ k=>omega
     have hch:∃m,m<L.size∧∃d,w.drawn≤d∧(choose (.mapNext ((if L.isEmpty then #[none] else #[])++L.map some).size)).run P w= .ok m {w with drawn:=d}:=by
      have hs:((if L.isEmpty then #[none] else #[])++L.map some).size=L.size:=by simp[hem]
      rw[hs]
      by_cases hf:L.size≤1
      ·exact⟨0,hpos,w.drawn,Nat.le_refl _,by simp[run_choose,Question.forced,hf]⟩
      ·refine⟨w.tape w.drawn (.mapNext L.size)%L.size,Nat.mod_lt _ hpos,w.drawn+1,Nat.le_add_right _ _,?_⟩
       simp[run_choose,Question.forced,hf,Question.cut]
     obtain⟨m,hm,d,hdd,hch⟩:=hch
     obtain⟨j,hj,e,hns⟩:=hLmem m hm
     obtain⟨v1,v2,_⟩:=k2.2.2 j (by omega) hj
     have hR':=hR.drew d
     have hlt:=lt_of_heap g1
     obtain⟨r1,r2⟩:=hR'.turnFlat hg rfl (fun p=>cell_of_iter g1) hlt (.iter (some q) es.length (seen++[j])) (.mapIter (some (K.φ q)) es.length (seen.toArray.push j) es.length) (fun b hb=>hb) (by show frz w.heap[K.φ r]? = _;rw[g1];rfl) (fun w' hw'=>⟨some (K.φ q),by simpa using hw',g3,rfl⟩)
     refine⟨_,_,.tuple #[.bool true,(es'[j]).key,(es'[j]).val],_,?_,h1 j (es[j]'(by omega)).1 (es[j]'(by omega)).2 (List.getElem?_eq_getElem (by omega)) hns,?_,r1,r2.drew d⟩
     ·rw[hrun0,hch,Result.andThen_ok]
      have hget:((if L.isEmpty then #[none] else #[])++L.map some)[m]? = some (some es'[j]):=by
       simp[hem,hm,e]
      rw[hget]
      simp only[Sem.run_bind,run_setIter (w:={w with drawn:=d}) _ g1,Result.andThen_ok,Sem.run_pure,hborn j hj]
     ·rw[length_hset']
      exact VRs.tup (cs:=#[.bool true,(es'[j]).key,(es'[j]).val]) (.cons (.bool _) (.cons v1 (.cons v2 .nil)))
   ·exact hX.elim
  ·exact hX.elim
 ·exact hX.elim
theorem entry_sound{σ:List AObj}{w:World}(hR:R K σ w){r:Nat}{v:AV}{σ':List AObj}(h:entR σ (hget σ r)=some (v,σ')) :
  ∃c,(Instr.entry (.pointer (some ⟨K.φ r,0,none⟩))).run P w= .ok c w∧VR K σ.length v c∧σ'=σ:=by
 unfold entR at h
 split at h
 ·rename_i q c seen hg
  split at h
  ·rename_i es i hq hi
   split at h
   ·rename_i hc
    subst hc
    simp only[Option.map_eq_some_iff,Prod.mk.injEq] at h
    obtain⟨p,hp,rfl,rfl⟩:=h
    obtain⟨m',g1,g3,rfl⟩:=hR.obj r _ hg
    obtain⟨es',clock,k1,k2⟩:=hR.obj q _ hq
    obtain⟨hil,hie⟩:=List.getElem?_eq_some_iff.1 hp
    have hcl:clock=es.length:=by rw[k2.2.1,k2.1]
    subst hcl
    have hil':i<es'.size:=by rw[← k2.1];exact hil
    obtain⟨v1,v2,v3⟩:=k2.2.2 i hil hil'
    have hback:seen.toArray.back? = some i:=by rw[← hi];simp
    have hfind:es'.find? (fun e=>e.born==i)=some es'[i]:=by
     rw[Array.find?_eq_some_iff_getElem]
     refine⟨by simpa using v3,i,hil',rfl,fun j hj=>?_⟩
     have:=(k2.2.2 j (by omega) (by omega)).2.2
     rw[this];simp;omega
    refine⟨.tuple #[(es'[i]).key,(es'[i]).val],?_,?_,rfl⟩
    ·simp only[Instr.entry,Sem.run_bind,run_getIter g1,Result.andThen_ok,hback,run_getMap k1,bne_self_eq_false,Bool.false_eq_true,if_false,hfind,Sem.run_pure]
    ·rw[← hie]
     exact VRs.tup (cs:=#[(es'[i]).key,(es'[i]).val]) (.cons v1 (.cons v2 .nil))
   ·cases h
  ·cases h
 ·cases h
end Go.Mu
namespace Go.Mu
open Go
variable {P:Program}{ty:Nat→TI}{K:Kr}
theorem bytesL_inv:∀{xs:List AV} {ns:List Int},bytesL xs=some ns→xs=ns.map (AV.int .u8)
 | [],ns,h=>by simp[bytesL] at h;subst h;rfl
 | .int .u8 n::l,ns,h=>by
  simp only[bytesL,Option.map_eq_some_iff] at h
  obtain⟨m,h1,rfl⟩:=h
  rw[bytesL_inv h1];rfl
theorem cvt_sound(hT:TysOK P ty){σ:List AObj}{w:World}(hR:R K σ w){s d e sz:Nat}{t:Tok}{xs:List AV}{ns:List Int}(hs:(ty s).kd= .slice e)(hd:(ty d).kd= .str)(he:(ty e).kd= .int .u8)(hz:sz=1∨xs=[])(hb:bytesL xs=some ns)
  {c:Value} (hv:VR K σ.length (.list t sz xs) c):(convert s d c).run P w= .ok (.string (strOfNums ns)) w:=by
 obtain⟨d1,k1,u1⟩:=(hT s (by rw[hs];simp)).kd
 rw[hs] at u1;simp only[KdOK] at u1;subst u1
 obtain⟨d2,k2,u2⟩:=(hT d (by rw[hd];simp)).kd
 rw[hd] at u2;simp only[KdOK] at u2;subst u2
 obtain⟨d3,k3,u3⟩:=(hT e (by rw[he];simp)).kd
 rw[he] at u3;simp only[KdOK] at u3;subst u3
 obtain rfl:=bytesL_inv hb
 cases hv with
 | list _ _ _ a cap f q1 q2 q3 q4 q5 q6=>
  by_cases hne:ns=[]
  ·subst hne
   cases a with
   | none=>rw[run_convert_bytes_nil w s e k1 k3 _ _ d k2];rfl
   | some a=>
    have e0:=run_bytesToString (P:=P) w a 0 cap [] (run_loadCells_list (P:=P) w a [] (by simp))
    rw[run_convert_bytes_string w s d e _ _ _ k1 k3 k2]
    exact e0
  ·obtain⟨b,o,rfl,h⟩:=q3 (by simpa using hne)
   have hz':sz=1:=by rcases hz with h | h;exact h;exact absurd (by simpa using h) hne
   subst hz'
   refine run_convert_bytes_arg w s e k1 k3 b o _ cap ns (by simp) (fun i hi=>?_) d k2
   have hi':i<ns.length:=by simpa using hi
   have h1:=h i 0 hi (by omega)
   rw[Nat.mul_one,Nat.add_zero] at h1
   rw[hR.stab _ _ _ h1]
   have h2:=q6 i 0 hi (by simp[AV.cells])
   simp only[List.getElem_map,AV.cells,List.getElem_cons_zero] at h2
   rw[h2.int_inv]
   simp[List.getD,List.getElem?_eq_getElem hi']
theorem srange_sound(hT:TysOK P ty){σ:List AObj}{w:World}(hR:R K σ w){t:Nat}{s:ByteArray}(hk:(ty t).kd= .str) :
  ∃c K' w',(Instr.range t (.string s)).run P w= .ok c w'∧VR K' (σ.length+1) (.ptr σ.length 0) c∧R K' (σ++[.siter s 0]) w'∧Step K σ w K' (σ++[.siter s 0]) w':=by
 obtain⟨d,hd,hu⟩:=run_under hT (t:=t) (by rw[hk];simp)
 rw[hk] at hd
 simp only[KdOK] at hd
 subst hd
 obtain⟨r1,r2⟩:=hR.new (.siter s 0) (.stringIter s 0) (K.setφ σ.length w.heap.size) (Ext.setφ K _ _) (fun _ _=>rfl) (fun b p v hv=> .inl hv) (fun b hb=>by
  have:b=(K.setφ σ.length w.heap.size).φ σ.length:=hb
  simpa only[Kr.setφ,if_true] using this) (by
   show(w.alloc (.stringIter s 0)).heap[(K.setφ σ.length w.heap.size).φ σ.length]? = _
   simp only[Kr.setφ,if_true];exact heap_alloc_new w _)
 refine⟨.pointer (some ⟨w.heap.size,0,none⟩),_,_,?_,?_,r1,r2⟩
 ·simp only[Instr.range,Sem.run_bind,hu w,Result.andThen_ok,Sem.run_pure];rfl
 ·have:=VR.ptr (K:=K.setφ σ.length w.heap.size) (n:=σ.length+1) σ.length 0 (by omega)
  simpa[Kr.setφ] using this
def nextSB(X:AV→List AObj→Prop)(σ:List AObj)(r:Nat)(s:ByteArray)(pos:Nat):Option UInt8→Prop
 | some b=>b.toNat<128∧X (.tup [.bool true,.int .i64 pos,.int .i32 b.toNat]) (hset σ r (.siter s (pos+1)))
 | none=>X (.tup [.bool false]) σ
def nextSR(X:AV→List AObj→Prop)(σ:List AObj)(r:Nat):Option AObj→Prop
 | some (.siter s pos)=>nextSB X σ r s pos s[pos]?
 | _=>False
def nextS(X:AV→List AObj→Prop)(σ:List AObj):Option AV→Prop
 | some (.ptr r 0)=>nextSR X σ r (hget σ r)
 | _=>False
theorem nextS_mono{σ:List AObj}{v:Option AV}{X Y:AV→List AObj→Prop}(hn:∀v σ,X v σ→Y v σ)(h:nextS X σ v):nextS Y σ v:=by
 unfold nextS at h⊢
 split at h
 ·unfold nextSR at h⊢
  split at h
  ·unfold nextSB at h⊢
   split at h
   ·exact⟨h.1,hn _ _ h.2⟩
   ·exact hn _ _ h
  ·exact h
 ·exact h
theorem cell_of_siter{w:World}{b p:Nat}{s:ByteArray}{q:Nat}(h:w.heap[b]? = some (.stringIter s q)):w.cell? ⟨b,p,none⟩= none:=by simp[World.cell?,h]
theorem decode_small{s:ByteArray}{i:Nat}{b:UInt8}(h:s[i]? = some b)(hb:b.toNat<128):Utf8.decode s i=(b.toNat,1):=by
 obtain⟨hi,he⟩:=getElem?_eq_some_iff.1 h
 have hg:s.get! (i+0)=b:=by
  rw[Nat.add_zero,← he]
  show s.data[i]! = _
  have hi2:i<s.data.size:=hi
  rw[getElem!_pos s.data i hi2]
  rfl
 simp only[Utf8.decode,hg]
 rw[if_pos hb]
theorem strNext_sound{σ:List AObj}{w:World}(hR:R K σ w){a:AV}{ca:Value}(ha:VR K σ.length a ca){T:TypeId}{X:AV→List AObj→Prop}(hX:nextS X σ (some a)) :
  ∃v σ' c' w',(Instr.next ca true T).run P w= .ok c' w'∧X v σ'∧VR K σ'.length v c'∧R K σ' w'∧Step K σ w K σ' w':=by
 unfold nextS at hX
 split at hX
 ·rename_i r he
  simp at he;subst he
  unfold nextSR at hX
  split at hX
  ·rename_i s pos hg
   obtain⟨hr,rfl⟩:=ha.ptr_inv
   have g1:w.heap[K.φ r]? = some (.stringIter s pos):=hR.obj r _ hg
   have hget:(getObj (K.φ r)).run P w= .ok (.stringIter s pos) w:=by simp[getObj,Sem.run,g1]
   cases hb:s[pos]? with
   | some b=>
    rw[hb] at hX
    simp only[nextSB] at hX
    obtain⟨hlt,hX⟩:=hX
    obtain⟨hi,_⟩:=getElem?_eq_some_iff.1 hb
    have hi':pos<s.size:=hi
    obtain⟨r1,r2⟩:=hR.turnFlat hg rfl (fun p=>cell_of_siter g1) (lt_of_heap g1) (.siter s (pos+1)) (.stringIter s (pos+1)) (fun b hb=>hb) (by show frz w.heap[K.φ r]? = _;rw[g1];rfl) (fun w' hw'=>hw')
    have hset:(setObj (K.φ r) (.stringIter s (pos+1))).run P w= .ok () {w with heap:=w.heap.setIfInBounds (K.φ r) (.stringIter s (pos+1))}:=by simp[setObj,Sem.run,g1]
    refine⟨_,_,.tuple #[.bool true,.int .i64 pos,.int .i32 b.toNat],_,?_,hX,?_,r1,r2⟩
    ·simp only[Instr.next,Sem.run_bind,hget,Result.andThen_ok,hi',if_true,decode_small hb hlt,hset,Sem.run_pure]
     rfl
    ·exact VRs.tup (cs:=#[.bool true,.int .i64 pos,.int .i32 b.toNat]) (.cons (.bool _) (.cons (.int _ _) (.cons (.int _ _) .nil)))
   | none=>
    rw[hb] at hX
    simp only[nextSB] at hX
    have hi:¬pos<s.size:=fun h=>by
     rw[getElem?_pos s pos h] at hb;cases hb
    refine⟨_,_,.tuple #[.bool false],w,?_,hX,VRs.tup (cs:=#[.bool false]) (.cons (.bool _) .nil),hR,.refl _ _ _⟩
    simp only[Instr.next,Sem.run_bind,hget,Result.andThen_ok,hi,if_false,Sem.run_pure]
  ·exact hX.elim
 ·exact hX.elim
end Go.Mu
namespace Go.Mu
open Go
def okObj:Obj→Bool
 | .view .. | .chan .. | .pending .. =>false
 | _=>true
def Doom(P:Program){α:Type}:Sem α→Prop
 | .pure _=>False
 | .load _ _ k=>∀v,Doom P (k v)
 | .store _ _ _ k=>Doom P k
 | .new _ k=>∀r,Doom P (k r)
 | .shape _ k=>∀s,Doom P (k s)
 | .freeze _ _ k=>Doom P k
 | .frozen _ k=>∀b,Doom P (k b)
 | .getObj _ k=>∀o,Doom P (k o)
 | .setObj _ _ k=>Doom P k
 | .choose _ k=>∀n,Doom P (k n)
 | .sys _ k=>∀r,Doom P (k r)
 | .program k=>Doom P (k P)
 | .mark _ k=>Doom P k
 | .halt _=>True
def Tm(P:Program){α:Type}:Sem α→(α→Prop)→Prop
 | .pure a,Φ=>Φ a
 | .load m _ k,Φ=>m= .plain∧∀v,Tm P (k v) Φ
 | .store m _ _ k,Φ=>m= .plain∧Tm P k Φ
 | .new o k,Φ=>okObj o=true∧∀r,Tm P (k r) Φ
 | .shape _ k,_=>∀s,Doom P (k s)
 | .freeze _ _ k,_=>Doom P k
 | .frozen _ k,_=>∀b,Doom P (k b)
 | .getObj _ k,Φ=>∀o,Tm P (k o) Φ
 | .setObj _ o k,Φ=>okObj o=true∧Tm P k Φ
 | .choose _ k,Φ=>∀n,Tm P (k n) Φ
 | .sys _ k,_=>∀r,Doom P (k r)
 | .program k,Φ=>Tm P (k P) Φ
 | .mark m k,Φ=>m= .noRoom∧Tm P k Φ∨Doom P k
 | .halt _,_=>True
theorem Doom.not_ok{P:Program}{α:Type}{s:Sem α}:Doom P s→∀{w:World} {a:α} {w':World},s.run P w≠ .ok a w':=by
 induction s with
 | pure a=>intro h;exact h.elim
 | load m a k ih=>
  intro h w a w' e
  simp only[Sem.run] at e
  split at e
  ·exact ih _ (h _) e
  ·split at e
   ·exact ih _ (h _) e
   ·cases e
 | store m a v k ih=>
  intro h w b w' e
  cases v<;> simp only[Sem.run] at e<;> (first | (cases e;done) | skip)<;>
   (split at e
    ·split at e
     ·cases e
     ·exact ih h e
    ·split at e
     ·exact ih h e
     ·cases e)
 | new o k ih=>intro h w a w' e;exact ih _ (h _) e
 | shape r k ih=>intro h w a w' e;exact ih _ (h _) e
 | freeze a n k ih=>intro h w b w' e;exact ih h e
 | frozen a k ih=>intro h w b w' e;exact ih _ (h _) e
 | getObj r k ih=>
  intro h w a w' e
  simp only[Sem.run] at e
  split at e
  ·cases e
  ·exact ih _ (h _) e
  ·cases e
 | setObj r o k ih=>
  intro h w a w' e
  simp only[Sem.run] at e
  split at e
  ·cases e
  ·exact ih h e
  ·cases e
 | choose q k ih=>
  intro h w a w' e
  simp only[Sem.run] at e
  split at e
  ·exact ih _ (h _) e
  ·exact ih _ (h _) e
 | sys c k ih=>intro h w a w' e;exact ih _ (h _) e
 | program k ih=>intro h w a w' e;exact ih _ h e
 | mark m k ih=>intro h w a w' e;exact ih h e
 | halt h0=>intro h w a w' e;cases e
theorem Doom_bind{P:Program}{α β:Type}(x:Sem α)(f:α→Sem β):(∀a,Doom P (f a))→Doom P (x >>= f):=by
 intro hf
 show Doom P (x.bind f)
 induction x with
 | pure a=>exact hf a
 | load m a k ih=>exact fun v=>ih v
 | store m a v k ih=>exact ih
 | new o k ih=>exact fun r=>ih r
 | shape r k ih=>exact fun s=>ih s
 | freeze a n k ih=>exact ih
 | frozen a k ih=>exact fun b=>ih b
 | getObj r k ih=>exact fun o=>ih o
 | setObj r o k ih=>exact ih
 | choose q k ih=>exact fun n=>ih n
 | sys c k ih=>exact fun r=>ih r
 | program k ih=>exact ih _
 | mark m k ih=>exact ih
 | halt h=>trivial
theorem Doom_bind'{P:Program}{α β:Type}(x:Sem α)(f:α→Sem β)(h:Doom P x):Doom P (x >>= f):=by
 show Doom P (x.bind f)
 induction x with
 | pure a=>exact h.elim
 | load m a k ih=>exact fun v=>ih v (h v)
 | store m a v k ih=>exact ih h
 | new o k ih=>exact fun r=>ih r (h r)
 | shape r k ih=>exact fun s=>ih s (h s)
 | freeze a n k ih=>exact ih h
 | frozen a k ih=>exact fun b=>ih b (h b)
 | getObj r k ih=>exact fun o=>ih o (h o)
 | setObj r o k ih=>exact ih h
 | choose q k ih=>exact fun n=>ih n (h n)
 | sys c k ih=>exact fun r=>ih r (h r)
 | program k ih=>exact ih _ h
 | mark m k ih=>exact ih h
 | halt h=>trivial
theorem Tm_mono{P:Program}{α:Type}{s:Sem α}{Φ Ψ:α→Prop}(h:Tm P s Φ)(hi:∀a,Φ a→Ψ a):Tm P s Ψ:=by
 induction s with
 | pure a=>exact hi _ h
 | load m a k ih=>exact⟨h.1,fun v=>ih v (h.2 v)⟩
 | store m a v k ih=>exact⟨h.1,ih h.2⟩
 | new o k ih=>exact⟨h.1,fun r=>ih r (h.2 r)⟩
 | shape r k ih=>exact h
 | freeze a n k ih=>exact h
 | frozen a k ih=>exact h
 | getObj r k ih=>exact fun o=>ih o (h o)
 | setObj r o k ih=>exact⟨h.1,ih h.2⟩
 | choose q k ih=>exact fun n=>ih n (h n)
 | sys c k ih=>exact h
 | program k ih=>exact ih _ h
 | mark m k ih=>exact h.imp (fun h=>⟨h.1,ih h.2⟩) id
 | halt h=>trivial
theorem Tm_bind{P:Program}{α β:Type}{x:Sem α}{f:α→Sem β}{Φ:β→Prop}(h:Tm P x fun a=>Tm P (f a) Φ):Tm P (x >>= f) Φ:=by
 show Tm P (x.bind f) Φ
 induction x with
 | pure a=>exact h
 | load m a k ih=>exact⟨h.1,fun v=>ih v (h.2 v)⟩
 | store m a v k ih=>exact⟨h.1,ih h.2⟩
 | new o k ih=>exact⟨h.1,fun r=>ih r (h.2 r)⟩
 | shape r k ih=>exact fun s=>Doom_bind' _ _ (h s)
 | freeze a n k ih=>exact Doom_bind' _ _ h
 | frozen a k ih=>exact fun b=>Doom_bind' _ _ (h b)
 | getObj r k ih=>exact fun o=>ih o (h o)
 | setObj r o k ih=>exact⟨h.1,ih h.2⟩
 | choose q k ih=>exact fun n=>ih n (h n)
 | sys c k ih=>exact fun r=>Doom_bind' _ _ (h r)
 | program k ih=>exact ih _ h
 | mark m k ih=>exact h.imp (fun h=>⟨h.1,ih h.2⟩) (fun h=>Doom_bind' _ _ h)
 | halt h=>trivial
/-! ### the locality of a safe run -/
structure Pois(n:Nat)(A B:Nat→Prop)(w₀ w:World):Prop where
 size:w₀.heap.size=w.heap.size
 le:n≤w.heap.size
 new:∀b:Nat,n≤b→w₀.heap[b]? = w.heap[b]?
 old:∀b:Nat,b<n→A b∧w₀.heap[b]? = w.heap[b]?∨B b∧(∃c T f,w.heap[b]? = some (.cells c T f)∧w₀.heap[b]? = some (.cells c T (0,c.size)))∨w₀.heap[b]? = some (.cells #[] 0 (0,0))
 plain:∀(b:Nat) o,w₀.heap[b]? = some o→okObj o=true
 tape:w₀.tape=w.tape
 drawn:w₀.drawn=w.drawn
 os:w₀.os=w.os
def EvOK(n:Nat)(A B:Nat→Prop)(top:Nat)(e:Event):Prop:=
 match e.loc with
 | .cell a=>a.block<top∧e.sync=false∧(n≤a.block∨A a.block∨(B a.block∧e.write=false))
 | .obj r=>r<top∧e.sync=false∧(n≤r∨A r)
 | .mark m=>m= .noRoom
 | _=>False
theorem Pois.lt{n:Nat}{A B:Nat→Prop}{w₀ w:World}(h:Pois n A B w₀ w){b:Nat}{o:Obj}(ho:w₀.heap[b]? = some o):b<w.heap.size:=by
 rw[← h.size];exact(Array.getElem?_eq_some_iff.1 ho).1
theorem Pois.far{n:Nat}{A B:Nat→Prop}{w₀ w:World}(h:Pois n A B w₀ w)(P:Program)(a:Addr)(m:Bool):∃e,w₀.farLoad P a m= .error e:=by
 unfold World.farLoad
 split
 ·rename_i x y hx
  have:=h.plain _ _ hx
  simp[okObj] at this
 ·exact⟨_,rfl⟩
theorem Pois.farS{n:Nat}{A B:Nat→Prop}{w₀ w:World}(h:Pois n A B w₀ w)(P:Program)(a:Addr)(v:Value)(m:Bool):∃e,w₀.farStore P a v m= .error e:=by
 unfold World.farStore
 split
 ·rename_i x y hx
  have:=h.plain _ _ hx
  simp[okObj] at this
 ·exact⟨_,rfl⟩
theorem Pois.cell{n:Nat}{A B:Nat→Prop}{w₀ w:World}(h:Pois n A B w₀ w){a:Addr}{v:Value}(hv:w₀.cell? a=some v) :
  w.cell? a=some v∧a.block<w.heap.size∧((n≤a.block∨A a.block)∧w₀.heap[a.block]? = w.heap[a.block]?∨(B a.block∧w₀.frozen? a=true)):=by
 unfold World.cell? at hv⊢
 split at hv
 ·rename_i c e f hc
  have hlt:=h.lt hc
  split at hv
  ·cases hv
  ·rename_i hs
   have key:(n≤a.block∨A a.block)∧w₀.heap[a.block]? = w.heap[a.block]?→w.cell? a=some v:=fun g=>by
    unfold World.cell?
    rw[← g.2,hc];simp only[hs];exact hv
   rcases Nat.lt_or_ge a.block n with hb | hb
   ·rcases h.old _ hb with g | ⟨g1,c',T,f',g2,g3⟩ | g
    ·exact⟨by have:=key ⟨.inr g.1,g.2⟩;unfold World.cell? at this;exact this,hlt,.inl ⟨.inr g.1,g.2⟩⟩
    ·rw[hc] at g3
     simp only[Option.some.injEq,Obj.cells.injEq] at g3
     obtain⟨rfl,rfl,rfl⟩:=g3
     refine⟨by rw[g2];simp only[hs];exact hv,hlt,.inr ⟨g1,?_⟩⟩
     have:=(Array.getElem?_eq_some_iff.1 hv).1
     unfold World.frozen?
     rw[hc];simp[this]
    ·rw[hc] at g
     simp only[Option.some.injEq,Obj.cells.injEq] at g
     obtain⟨rfl,_,_⟩:=g
     simp at hv
   ·have g:=h.new _ hb
    exact⟨by have:=key ⟨.inl hb,g⟩;unfold World.cell? at this;exact this,hlt,.inl ⟨.inl hb,g⟩⟩
 ·cases hv
theorem Pois.objAt{n:Nat}{A B:Nat→Prop}{w₀ w:World}(h:Pois n A B w₀ w){r:Nat}{o:Obj}(ho:w₀.heap[r]? = some o)(hc:∀c T f,o≠ .cells c T f):w.heap[r]? = some o∧r<w.heap.size∧(n≤r∨A r):=by
 have hlt:=h.lt ho
 rcases Nat.lt_or_ge r n with hb | hb
 ·rcases h.old _ hb with g | ⟨_,c',T,f',g2,g3⟩ | g
  ·exact⟨by rw[← g.2];exact ho,hlt,.inr g.1⟩
  ·rw[ho] at g3;exact absurd (Option.some.inj g3) (hc _ _ _)
  ·rw[ho] at g;exact absurd (Option.some.inj g) (hc _ _ _)
 ·exact⟨by rw[← h.new _ hb];exact ho,hlt,.inl hb⟩
theorem Pois.turn{n:Nat}{A B:Nat→Prop}{w₀ w:World}(h:Pois n A B w₀ w){r:Nat}(hr:n≤r∨A r)(H₀ H:Array Obj)(hz₀:H₀.size=w₀.heap.size)(hz:H.size=w.heap.size)(ho₀:∀b,b≠r→H₀[b]? = w₀.heap[b]?)(ho:∀b,b≠r→H[b]? = w.heap[b]?)
  (he:H₀[r]? = H[r]?) (hp:∀o,H₀[r]? = some o→okObj o=true):Pois n A B {w₀ with heap:=H₀} {w with heap:=H}:=by
 refine⟨by simp[hz₀,hz,h.size],by simp[hz,h.le],fun b hb=>?_,fun b hb=>?_,fun b o hbo=>?_,h.tape,h.drawn,h.os⟩
 ·by_cases e:b=r
  ·subst e;exact he
  ·show H₀[b]? = H[b]?
   rw[ho₀ b e,ho b e];exact h.new b hb
 ·by_cases e:b=r
  ·subst e
   exact .inl ⟨hr.resolve_left (by omega),he⟩
  ·show _∧H₀[b]? = H[b]?∨_∧(∃c T f,H[b]? = _∧H₀[b]? = _)∨H₀[b]? = _
   rw[ho₀ b e,ho b e];exact h.old b hb
 ·by_cases e:b=r
  ·subst e;exact hp o hbo
  ·exact h.plain b o (by rw[← ho₀ b e];exact hbo)
theorem Tm.local{P:Program}{α:Type}{n:Nat}{A B:Nat→Prop}{s:Sem α}:∀{Φ:α→Prop} {w₀ w:World} {a:α} {w₀':World},Tm P s Φ→Pois n A B w₀ w→s.run P w₀= .ok a w₀'→
  ∃w',s.run P w= .ok a w'∧Pois n A B w₀' w'∧Φ a∧w.heap.size≤w'.heap.size∧∀es,∀e∈s.events P w es,e∈es∨EvOK n A B w'.heap.size e:=by
 induction s with
 | pure a=>
  intro Φ w₀ w b w₀' hT hP hr
  simp only[Sem.run,Result.ok.injEq] at hr
  obtain⟨rfl,rfl⟩:=hr
  exact⟨w,rfl,hP,hT,Nat.le_refl _,fun es e he=> .inl he⟩
 | load m a k ih=>
  intro Φ w₀ w b w₀' hT hP hr
  simp only[Sem.run] at hr
  cases hc:w₀.cell? a with
  | none=>
   obtain⟨e,he⟩:=hP.far P a (m== .atomic)
   rw[hc,he] at hr;cases hr
  | some v=>
   rw[hc] at hr
   obtain⟨h1,h2,h3⟩:=hP.cell hc
   obtain⟨w',g1,g2,g3,g4,g5⟩:=ih v (hT.2 v) hP hr
   refine⟨w',by simp only[Sem.run,h1];exact g1,g2,g3,g4,fun es e he=>?_⟩
   have he':e∈(k v).events P w (es.push ⟨.cell a,false,m== .atomic⟩):=by
    unfold Sem.events at he⊢
    simp only[Sem.runT,h1] at he;exact he
   rcases g5 _ e he' with g | g
   ·rcases Array.mem_push.1 g with g | rfl
    ·exact .inl g
    ·refine .inr ⟨by omega,by simp[hT.1],?_⟩
     rcases h3 with⟨h | h,_⟩ | ⟨h,_⟩
     ·exact .inl h
     ·exact .inr (.inl h)
     ·exact .inr (.inr ⟨h,rfl⟩)
   ·exact .inr g
 | store m a v k ih=>
  intro Φ w₀ w b w₀' hT hP hr
  have hv:v.oneCell'=true:=by
   cases v<;> first | rfl | (simp[Sem.run] at hr)
  have hrun:∀u:World,(Sem.store m a v k).run P u=match u.cell? a with
    | some _=>if u.frozen? a then .halt (.unsupported (.unsafePointer "a write to bytes that a string shares")) u else k.run P (u.setCell a v)
    | none=>match u.farStore P a v (m== .atomic) with
     | .ok (u,_)=>k.run P u
     | .error h=> .halt h u:=by
   intro u;cases v<;> first | rfl | (simp[Value.oneCell'] at hv)
  have hevs:∀(u:World) es,u.cell? a≠none→u.frozen? a=false→(Sem.store m a v k).events P u es=k.events P (u.setCell a v) (es.push ⟨.cell a,true,m== .atomic⟩):=by
   intro u es h1 h2
   cases hc:u.cell? a with
   | none=>exact absurd hc h1
   | some x=>cases v<;> first | (unfold Sem.events;simp only[Sem.runT,hc,h2];rfl) | (simp[Value.oneCell'] at hv)
  rw[hrun] at hr
  cases hc:w₀.cell? a with
  | none=>
   obtain⟨e,he⟩:=hP.farS P a v (m== .atomic)
   rw[hc,he] at hr;cases hr
  | some x=>
   rw[hc] at hr
   simp only at hr
   split at hr
   ·cases hr
   ·rename_i hfz
    obtain⟨h1,h2,h3⟩:=hP.cell hc
    have h4:(n≤a.block∨A a.block)∧w₀.heap[a.block]? = w.heap[a.block]? :=h3.resolve_right fun h=>hfz h.2
    have hfz':w.frozen? a=false:=by
     have:w.frozen? a=w₀.frozen? a:=by unfold World.frozen?;rw[h4.2]
     rw[this];simpa using hfz
    have hmod:∀(H:Array Obj) (f:Obj→Obj) (b:Nat),b≠a.block→(H.modify a.block f)[b]? = H[b]? :=fun H f b hb=>by
     rw[Array.getElem?_modify,if_neg (Ne.symm hb)]
    have hP':Pois n A B (w₀.setCell a v) (w.setCell a v):=by
     refine hP.turn h4.1 _ _ (by simp) (by simp) (fun b hb=>hmod _ _ b hb) (fun b hb=>hmod _ _ b hb) ?_ ?_
     ·rw[Array.getElem?_modify,Array.getElem?_modify,if_pos rfl,if_pos rfl,h4.2]
     ·intro o ho
      rw[Array.getElem?_modify,if_pos rfl] at ho
      obtain⟨o',g1,g2⟩:=Option.map_eq_some_iff.1 ho
      have:=hP.plain _ _ g1
      subst g2
      cases o'<;> first | exact this | rfl
    obtain⟨w',g1,g2,g3,g4,g5⟩:=ih hT.2 hP' hr
    have hsz:(w.setCell a v).heap.size=w.heap.size:=by simp[World.setCell]
    refine⟨w',by rw[hrun,h1,hfz'];exact g1,g2,g3,by rw[← hsz];exact g4,fun es e he=>?_⟩
    rw[hevs w es (by rw[h1];simp) hfz'] at he
    rcases g5 _ e he with g | g
    ·rcases Array.mem_push.1 g with g | rfl
     ·exact .inl g
     ·refine .inr ⟨by omega,by simp[hT.1],?_⟩
      rcases h4.1 with h | h
      ·exact .inl h
      ·exact .inr (.inl h)
    ·exact .inr g
 | new o k ih=>
  intro Φ w₀ w b w₀' hT hP hr
  simp only[Sem.run] at hr
  rw[hP.size] at hr
  have hP':Pois n A B {w₀ with heap:=w₀.heap.push o} {w with heap:=w.heap.push o}:=by
   have hge:∀b,b<n→b<w₀.heap.size:=fun b hb=>by rw[hP.size];have:=hP.le;omega
   refine⟨by simp[hP.size],by have:=hP.le;simp;omega,fun b hb=>?_,fun b hb=>?_,fun b o' hbo=>?_,hP.tape,hP.drawn,hP.os⟩
   ·show(w₀.heap.push o)[b]? = (w.heap.push o)[b]?
    rw[Array.getElem?_push,Array.getElem?_push,hP.size]
    split
    ·rfl
    ·exact hP.new b hb
   ·show _∧(w₀.heap.push o)[b]? = (w.heap.push o)[b]?∨_∧(∃c T f,(w.heap.push o)[b]? = _∧(w₀.heap.push o)[b]? = _)∨(w₀.heap.push o)[b]? = _
    have:=hge b hb
    rw[Array.getElem?_push,Array.getElem?_push,if_neg (by omega),if_neg (by rw[← hP.size];omega)]
    exact hP.old b hb
   ·have hbo:(w₀.heap.push o)[b]? = some o':=hbo
    rw[Array.getElem?_push] at hbo
    split at hbo
    ·simp only[Option.some.injEq] at hbo;subst hbo;exact hT.1
    ·exact hP.plain b o' hbo
  obtain⟨w',g1,g2,g3,g4,g5⟩:=ih _ (hT.2 _) hP' hr
  refine⟨w',g1,g2,g3,?_,fun es e he=>g5 es e he⟩
  have:w.heap.size+1≤w'.heap.size:=by simpa using g4
  omega
 | shape r k ih=>intro Φ w₀ w b w₀' hT hP hr;exact absurd hr (Doom.not_ok (hT _))
 | freeze a m k ih=>intro Φ w₀ w b w₀' hT hP hr;exact absurd hr (Doom.not_ok hT)
 | frozen a k ih=>intro Φ w₀ w b w₀' hT hP hr;exact absurd hr (Doom.not_ok (hT _))
 | getObj r k ih=>
  intro Φ w₀ w b w₀' hT hP hr
  simp only[Sem.run] at hr
  split at hr
  ·cases hr
  ·rename_i o hnc ho
   obtain⟨h1,h2,h3⟩:=hP.objAt ho (fun c T f e=>hnc c T f e)
   obtain⟨w',g1,g2,g3,g4,g5⟩:=ih o (hT o) hP hr
   have hch:o.isChan=false:=by
    have:=hP.plain _ _ ho
    cases o<;> first | rfl | (simp[okObj] at this)
   refine⟨w',?_,g2,g3,g4,fun es e he=>?_⟩
   ·simp only[Sem.run,h1]
    cases o<;> first | exact g1 | exact(hnc _ _ _ rfl).elim
   ·have he':e∈(k o).events P w (es.push ⟨.obj r,false,o.isChan⟩):=by
     unfold Sem.events at he⊢
     simp only[Sem.runT,h1] at he
     cases o<;> first | exact he | exact(hnc _ _ _ rfl).elim
    rcases g5 _ e he' with g | g
    ·rcases Array.mem_push.1 g with g | rfl
     ·exact .inl g
     ·exact .inr ⟨by omega,hch,h3⟩
    ·exact .inr g
  ·cases hr
 | setObj r o k ih=>
  intro Φ w₀ w b w₀' hT hP hr
  simp only[Sem.run] at hr
  split at hr
  ·cases hr
  ·rename_i o1 hnc ho
   obtain⟨h1,h2,h3⟩:=hP.objAt ho (fun c T f e=>hnc c T f e)
   have hlt₀:=(Array.getElem?_eq_some_iff.1 ho).1
   have hP':Pois n A B {w₀ with heap:=w₀.heap.setIfInBounds r o} {w with heap:=w.heap.setIfInBounds r o}:=by
    refine hP.turn h3 _ _ (by simp) (by simp) (fun b hb=>Array.getElem?_setIfInBounds_ne (Ne.symm hb)) (fun b hb=>Array.getElem?_setIfInBounds_ne (Ne.symm hb)) ?_ ?_
    ·rw[Array.getElem?_setIfInBounds_self_of_lt hlt₀,Array.getElem?_setIfInBounds_self_of_lt h2]
    ·intro o' ho'
     rw[Array.getElem?_setIfInBounds_self_of_lt hlt₀] at ho'
     simp only[Option.some.injEq] at ho';subst ho';exact hT.1
   obtain⟨w',g1,g2,g3,g4,g5⟩:=ih hT.2 hP' hr
   have hch:o.isChan=false:=by
    have:=hT.1
    cases o<;> first | rfl | (simp[okObj] at this)
   have hsz:w.heap.size≤w'.heap.size:=by simpa using g4
   refine⟨w',?_,g2,g3,hsz,fun es e he=>?_⟩
   ·simp only[Sem.run,h1]
    cases o1<;> first | exact g1 | exact(hnc _ _ _ rfl).elim
   ·have he':e∈k.events P {w with heap:=w.heap.setIfInBounds r o} (es.push ⟨.obj r,true,o.isChan⟩):=by
     unfold Sem.events at he⊢
     simp only[Sem.runT,h1] at he
     cases o1<;> first | exact he | exact(hnc _ _ _ rfl).elim
    rcases g5 _ e he' with g | g
    ·rcases Array.mem_push.1 g with g | rfl
     ·exact .inl g
     ·exact .inr ⟨by omega,hch,h3⟩
    ·exact .inr g
  ·cases hr
 | choose q k ih=>
  intro Φ w₀ w b w₀' hT hP hr
  simp only[Sem.run] at hr
  split at hr
  ·rename_i hf
   obtain⟨w',g1,g2,g3,g4,g5⟩:=ih _ (hT _) hP hr
   refine⟨w',by simp only[Sem.run,hf,if_true];exact g1,g2,g3,g4,fun es e he=>g5 es e ?_⟩
   unfold Sem.events at he⊢
   simp only[Sem.runT,hf,if_true] at he;exact he
  ·rename_i hf
   have hq:w₀.tape w₀.drawn q=w.tape w.drawn q:=by rw[hP.tape,hP.drawn]
   rw[hq] at hr
   obtain⟨w',g1,g2,g3,g4,g5⟩:=ih _ (hT _) (w₀:={w₀ with drawn:=w₀.drawn+1}) (w:={w with drawn:=w.drawn+1}) ⟨hP.size,hP.le,hP.new,hP.old,hP.plain,hP.tape,by show w₀.drawn+1=w.drawn+1;rw[hP.drawn],hP.os⟩ hr
   refine⟨w',by simp only[Sem.run,hf];exact g1,g2,g3,g4,fun es e he=>g5 es e ?_⟩
   unfold Sem.events at he⊢
   simp only[Sem.runT,hf] at he;exact he
 | sys c k ih=>intro Φ w₀ w b w₀' hT hP hr;exact absurd hr (Doom.not_ok (hT _))
 | program k ih=>
  intro Φ w₀ w b w₀' hT hP hr
  obtain⟨w',g1,g2,g3,g4,g5⟩:=ih P hT hP hr
  exact⟨w',g1,g2,g3,g4,fun es e he=>g5 es e he⟩
 | mark m k ih=>
  intro Φ w₀ w b w₀' hT hP hr
  rcases hT with⟨hm,hT⟩ | hD
  ·obtain⟨w',g1,g2,g3,g4,g5⟩:=ih hT hP hr
   refine⟨w',g1,g2,g3,g4,fun es e he=>?_⟩
   rcases g5 (es.push ⟨.mark m,false,true⟩) e he with g | g
   ·rcases Array.mem_push.1 g with g | rfl
    ·exact .inl g
    ·exact .inr hm
   ·exact .inr g
  ·exact absurd hr (Doom.not_ok hD)
 | halt h=>intro Φ w₀ w b w₀' hT hP hr;cases hr
end Go.Mu
namespace Go.Mu
open Go
section
variable {P:Program}{α β:Type}{Φ:α→Prop}
theorem Tm_pure{a:α}(h:Φ a):Tm P (Pure.pure a:Sem α) Φ:=h
theorem Tm_stuck{s:String}:Tm P (stuck s:Sem α) Φ:=trivial
theorem Tm_unsup{u:Unsupported}:Tm P (unsupported u:Sem α) Φ:=trivial
theorem Tm_program{Φ:Program→Prop}(h:Φ P):Tm P program Φ:=h
theorem Tm_load{a:Addr}{Φ:Value→Prop}(h:∀v,Φ v):Tm P (load a) Φ:=⟨rfl,h⟩
theorem Tm_store{a:Addr}{v:Value}{Φ:Unit→Prop}(h:Φ ()):Tm P (store a v) Φ:=⟨rfl,h⟩
theorem Tm_new{o:Obj}{Φ:Nat→Prop}(ho:okObj o=true)(h:∀r,Φ r):Tm P (newObj o) Φ:=⟨ho,h⟩
theorem Tm_getObj{r:Nat}{Φ:Obj→Prop}(h:∀o,Φ o):Tm P (getObj r) Φ:=h
theorem Tm_setObj{r:Nat}{o:Obj}{Φ:Unit→Prop}(ho:okObj o=true)(h:Φ ()):Tm P (setObj r o) Φ:=⟨ho,h⟩
theorem Tm_choose{q:Question}{Φ:Nat→Prop}(h:∀r,Φ r):Tm P (choose q) Φ:=h
theorem Tm_askRoom{b:Nat}{Φ:Unit→Prop}(h:Φ ()):Tm P (askRoom b) Φ:=by
 unfold askRoom;split
 ·exact .inl ⟨rfl,h⟩
 ·exact h
theorem Tm_map{β:Type}{x:Sem α}{f:α→β}{Φ:β→Prop}(h:Tm P x fun a=>Φ (f a)):Tm P (Functor.map f x) Φ:=by
 show Tm P (x.bind fun a=> .pure (f a)) Φ
 exact Tm_bind (x:=x) (f:=fun a=>Sem.pure (f a)) h
theorem Tm_typeInfo{t:TypeId}{Φ:TypeInfo→Prop}(h:∀i,Φ i):Tm P (typeInfo t) Φ:=by
 unfold typeInfo;refine Tm_bind (Tm_program ?_);split
 ·exact h _
 ·trivial
theorem Tm_underlying{t:TypeId}{Φ:TypeDesc→Prop}(h:∀i,Φ i):Tm P (underlying t) Φ:=by
 unfold underlying;refine Tm_bind (Tm_program ?_);split
 ·exact h _
 ·trivial
theorem Tm_underlyingP{t:TypeId}{Φ:TypeDesc→Prop}(h:∀i,P.underlying t=some i→Φ i):Tm P (underlying t) Φ:=by
 unfold underlying;refine Tm_bind (Tm_program ?_);split
 ·rename_i d hd;exact h _ hd
 ·trivial
theorem Tm_zeroValue{t:TypeId}{Φ:Value→Prop}(h:∀i,Φ i):Tm P (zeroValue t) Φ:=by
 unfold zeroValue;refine Tm_bind (Tm_typeInfo fun i=>?_);split
 ·exact h _
 ·trivial
theorem Tm_sizeOf{t:TypeId}{Φ:Nat→Prop}(h:∀i,Φ i):Tm P (sizeOf t) Φ:=by
 unfold sizeOf;exact Tm_bind (Tm_typeInfo fun i=>h _)
theorem Tm_isAgg{t:TypeId}{Φ:Bool→Prop}(h:∀i,Φ i):Tm P (isAgg t) Φ:=by
 unfold isAgg;refine Tm_bind (Tm_underlying fun i=>?_)
 split<;> exact h _
theorem Tm_elemOf{t:TypeId}{Φ:TypeId→Prop}(h:∀i,Φ i):Tm P (elemOf t) Φ:=by
 unfold elemOf;refine Tm_bind (Tm_underlying fun i=>?_)
 split
 ·exact h _
 ·trivial
theorem Tm_loadCellsFrom{a:Addr}{Φ:Array Value→Prop}(h:∀i,Φ i):∀(n i:Nat) (acc:Array Value),Tm P (loadCellsFrom a i n acc) Φ
 | 0,i,acc=>h _
 | n+1,i,acc=>by unfold loadCellsFrom;exact Tm_bind (Tm_load fun v=>Tm_loadCellsFrom h n _ _)
theorem Tm_loadCells{a:Addr}{n:Nat}{Φ:Array Value→Prop}(h:∀i,Φ i):Tm P (loadCells a n) Φ:=Tm_loadCellsFrom h _ _ _
theorem Tm_storeCells{a:Addr}{Φ:Unit→Prop}(h:Φ ()):∀(vs:List Value) (i:Nat),Tm P (storeCells a vs i) Φ
 | [],i=>h
 | v::vs,i=>by unfold storeCells;exact Tm_bind (Tm_store (Tm_storeCells h vs _))
theorem Tm_loadVar{t:TypeId}{a:Addr}{Φ:Value→Prop}(h:∀i,Φ i):Tm P (loadVar t a) Φ:=by
 unfold loadVar;refine Tm_bind (Tm_isAgg fun i=>?_);split
 ·exact Tm_bind (Tm_sizeOf fun n=>Tm_bind (Tm_loadCells fun _=>h _))
 ·exact Tm_load h
theorem Tm_storeVar{t:TypeId}{a:Addr}{v:Value}{Φ:Unit→Prop}(h:Φ ()):Tm P (storeVar t a v) Φ:=by
 unfold storeVar;refine Tm_bind (Tm_sizeOf fun n=>?_);split
 ·exact Tm_bind Tm_stuck
 ·exact Tm_storeCells h _ _
theorem Tm_newRow{t:TypeId}{cs:Array Value}{Φ:Addr→Prop}(h:∀i,Φ i):Tm P (newRow t cs) Φ:=by
 unfold newRow;exact Tm_bind (Tm_new rfl fun _=>h _)
theorem Tm_newVar{t:TypeId}{v:Value}{Φ:Addr→Prop}(h:∀i,Φ i):Tm P (newVar t v) Φ:=Tm_newRow h
theorem Tm_part{t:TypeId}{cs:Array Value}{off:Nat}{Φ:Value→Prop}(h:∀v,Φ v):Tm P (part t cs off) Φ:=by
 unfold part;refine Tm_bind (Tm_isAgg fun i=>?_);split
 ·exact Tm_bind (Tm_sizeOf fun n=>h _)
 ·split
  ·exact h _
  ·trivial
theorem Tm_runtimePanic{e:RuntimeError}:Tm P (runtimePanic e:Sem α) Φ:=by
 unfold runtimePanic;refine Tm_bind (Tm_program ?_)
 cases e<;> first
  | trivial
  | exact Tm_bind (Tm_elemOf fun _=>Tm_bind (Tm_newVar fun _=>trivial))
theorem Tm_boundsPanic{k:IntKind}{x y:Int}{c:BoundsCode}:Tm P (boundsPanic k x y c:Sem α) Φ:=by
 unfold boundsPanic;dsimp only
 split
 ·exact Tm_bind (Tm_map (Tm_choose fun _=>Tm_runtimePanic))
 ·exact Tm_bind (Tm_pure Tm_runtimePanic)
theorem Tm_asIntOf{v:Value}{Φ:IntKind×Int→Prop}(h:∀i,Φ i):Tm P (asIntOf v) Φ:=by
 unfold asIntOf;split<;> first | exact h _ | trivial
theorem Tm_asInt{v:Value}{Φ:Int→Prop}(h:∀i,Φ i):Tm P (asInt v) Φ:=by
 unfold asInt;exact Tm_bind (Tm_asIntOf fun _=>h _)
theorem Tm_asBool{v:Value}{Φ:Bool→Prop}(h:∀i,Φ i):Tm P (asBool v) Φ:=by
 unfold asBool;split<;> first | exact h _ | trivial
theorem Tm_asAddr{v:Value}{Φ:Addr→Prop}(h:∀i,Φ i):Tm P (asAddr v) Φ:=by
 unfold asAddr;split<;> first | exact h _ | trivial | exact Tm_runtimePanic
theorem Tm_sureAddr{v:Value}{Φ:Addr→Prop}(h:∀i,Φ i):Tm P (Instr.sureAddr v) Φ:=by
 unfold Instr.sureAddr;split<;> first | exact h _ | trivial
theorem Tm_ite{c:Prop}[Decidable c]{x y:Sem α}(h1:Tm P x Φ)(h2:Tm P y Φ):Tm P (if c then x else y) Φ:=by split<;> assumption
end
variable {P:Program}
abbrev Any{α:Type}:α→Prop:=fun _=>True
theorem Tm_loadAt{t:TypeId}{v:Value}:Tm P (Instr.loadAt t v) Any:=by
 unfold Instr.loadAt;exact Tm_bind (Tm_sureAddr fun _=>Tm_loadVar fun _=>trivial)
theorem Tm_storeAt{t:TypeId}{v x:Value}:Tm P (Instr.storeAt t v x) Any:=by
 unfold Instr.storeAt;exact Tm_bind (Tm_sureAddr fun _=>Tm_storeVar trivial)
theorem Tm_alloc{t:TypeId}:Tm P (Instr.alloc t true (.tuple #[])) Any:=by
 unfold Instr.alloc;exact Tm_bind (Tm_zeroValue fun _=>Tm_bind (Tm_newVar fun _=>trivial))
theorem Tm_box{t:TypeId}{v:Value}:Tm P (Instr.box t v) Any:=by
 unfold Instr.box;exact Tm_bind (Tm_newVar fun _=>trivial)
theorem Tm_lenOf{v:Value}{Φ:Nat→Prop}(h:∀n,Φ n):Tm P (Builtin.lenOf v) Φ:=by
 unfold Builtin.lenOf;split<;> first | exact h _ | trivial
theorem Tm_firstCells{size n:Nat}{v:Value}{Φ:Array Value→Prop}(h:∀n,Φ n):Tm P (Builtin.firstCells size n v) Φ:=by
 unfold Builtin.firstCells;split<;> first | exact h _ | trivial | exact Tm_loadCells h
theorem Tm_copy{ats:Array TypeId}{ty:TypeId}{args:Array Value}:Tm P (Builtin.copy_ ats ty args) Any:=by
 unfold Builtin.copy_
 dsimp only
 split
 ·refine Tm_bind (Tm_underlying fun d=>?_)
  split
  ·split
   ·refine Tm_bind (Tm_lenOf fun n=>Tm_bind (Tm_sizeOf fun m=>Tm_bind (Tm_firstCells fun cs=>?_)))
    split
    ·exact Tm_bind (Tm_storeCells trivial _ _)
    ·trivial
   ·trivial
  ·trivial
 ·trivial
theorem Tm_makeMap{t:TypeId}:Tm P (Instr.makeMap t none) Any:=by
 unfold Instr.makeMap;exact Tm_bind (Tm_new rfl fun _=>trivial)
theorem Tm_entry{v:Value}:Tm P (Instr.entry v) Any:=by
 unfold Instr.entry
 split
 ·refine Tm_bind (Tm_getObj fun o=>?_)
  split
  ·split
   ·refine Tm_bind (Tm_getObj fun o=>?_)
    split
    ·dsimp only
     split
     ·exact Tm_bind Tm_unsup
     ·split<;> trivial
    ·trivial
   ·trivial
  ·trivial
 ·trivial
theorem Tm_range{t:TypeId}{v:Value}:Tm P (Instr.range t v) Any:=by
 unfold Instr.range
 refine Tm_bind (Tm_underlying fun d=>?_)
 dsimp only
 split
 ·exact Tm_bind (Tm_pure (Tm_bind (Tm_new rfl fun _=>trivial)))
 ·exact Tm_bind (Tm_pure (Tm_bind (Tm_new rfl fun _=>trivial)))
 ·refine Tm_bind (Tm_getObj fun o=>?_)
  split
  ·exact Tm_bind (Tm_pure (Tm_bind (Tm_new rfl fun _=>trivial)))
  ·trivial
 ·trivial
theorem Tm_next{v:Value}{b:Bool}{ty:TypeId}:Tm P (Instr.next v b ty) Any:=by
 unfold Instr.next
 dsimp only
 split
 ·refine Tm_bind (Tm_getObj fun o=>?_)
  split
  ·split
   ·exact Tm_bind (Tm_setObj rfl trivial)
   ·trivial
  ·trivial
  ·refine Tm_bind (Tm_getObj fun o=>?_)
   split
   ·split
    ·exact Tm_bind Tm_unsup
    ·refine Tm_bind (Tm_choose fun n=>?_)
     split
     ·exact Tm_bind (Tm_setObj rfl trivial)
     ·trivial
     ·trivial
   ·trivial
  ·trivial
 ·trivial
/-! ### what looks at values alone -/
theorem Tm_build{t:TypeId}{ps:Array (Nat×Value)}:Tm P (Instr.build t ps) Any:=by
 unfold Instr.build
 refine Tm_bind (Tm_zeroValue fun z=>?_)
 dsimp only
 refine Tm_bind (Tm_underlying fun d=>?_)
 split
 ·rename_i fs
  have hm:∀(l:List (Field)),Tm P (l.mapM fun f=>do pure (f.offset,← sizeOf f.type):Sem (List (Nat×Nat))) Any:=by
   intro l
   induction l with
   | nil=>trivial
   | cons f l ih=>
    rw[List.mapM_cons]
    exact Tm_bind (Tm_bind (Tm_sizeOf fun n=>Tm_pure (Tm_bind (Tm_mono ih fun _ _=>trivial))))
  rw[Array.mapM_eq_mapM_toList]
  refine Tm_bind (Tm_map (Tm_mono (hm _) fun _ _=>?_))
  split<;> trivial
 ·refine Tm_bind (Tm_sizeOf fun n=>?_)
  split<;> trivial
 ·trivial
theorem Tm_buildSlice{t:TypeId}{n:Nat}{ps:Array (Nat×Value)}:Tm P (Instr.buildSlice t n ps) Any:=by
 unfold Instr.buildSlice
 refine Tm_bind (Tm_underlying fun d=>?_)
 split
 ·refine Tm_bind (Tm_sizeOf fun m=>?_)
  dsimp only
  split
  ·exact Tm_bind Tm_unsup
  ·split
   ·refine Tm_bind (Tm_pure ?_)
    split
    ·exact Tm_bind (Tm_newRow fun _=>trivial)
    ·trivial
   ·refine Tm_bind (Tm_zeroValue fun z=>Tm_bind (Tm_pure ?_))
    split
    ·exact Tm_bind (Tm_newRow fun _=>trivial)
    ·trivial
 ·trivial
theorem Tm_sizeOfP{t:TypeId}{Φ:Nat→Prop}(h:∀i,P.info? t=some i→Φ i.size):Tm P (sizeOf t) Φ:=by
 unfold sizeOf typeInfo
 refine Tm_bind (Tm_bind (Tm_program ?_))
 split
 ·rename_i i hi;exact h i hi
 ·trivial
theorem Tm_sizeOf_run{t:TypeId}{n:Nat}{w:World}(hn:(sizeOf t).run P w= .ok n w){Φ:Nat→Prop}(h:Φ n):Tm P (sizeOf t) Φ:=by
 refine Tm_sizeOfP fun i hi=>?_
 unfold sizeOf typeInfo at hn
 simp[program,Sem.run,hi] at hn
 rw[hn];exact h
theorem Tm_fieldAt{t:TypeId}{v:Value}{f:Nat}(hf:∀fs g,P.underlying t=some (.struct fs)→fs[f]? = some g→∃n w,(sizeOf g.type).run P w= .ok n w∧n≠0):Tm P (Instr.fieldAt t v f) Any:=by
 unfold Instr.fieldAt
 refine Tm_bind (Tm_underlyingP fun d hd=>?_)
 split
 ·split
  ·rename_i fs _ g hg
   obtain⟨n,w,h1,h2⟩:=hf fs g hd hg
   refine Tm_bind (Tm_sureAddr fun a=>Tm_bind ?_)
   unfold fieldPlace
   refine Tm_bind (Tm_sizeOf_run h1 ?_)
   rw[if_neg h2];trivial
  ·trivial
 ·trivial
theorem Tm_index{t:TypeId}{x i:Value}:Tm P (Instr.index t x i) Any:=by
 unfold Instr.index
 refine Tm_bind (Tm_asIntOf fun p=>?_)
 dsimp only
 refine Tm_bind (Tm_underlying fun d=>?_)
 split
 ·split
  ·exact Tm_bind (Tm_sizeOf fun n=>Tm_part fun _=>trivial)
  ·exact Tm_boundsPanic
 ·split
  ·trivial
  ·exact Tm_boundsPanic
 ·trivial
theorem Tm_indexAt{t:TypeId}{x i:Value}:Tm P (Instr.indexAt t x i) Any:=by
 unfold Instr.indexAt
 refine Tm_bind (Tm_asIntOf fun p=>?_)
 dsimp only
 refine Tm_bind (Tm_underlying fun d=>?_)
 have key:∀(q:Option Addr×Nat×TypeId),Tm P (do
   let __do_lift ← underlying t
   match q.1 with
   | some a=>
    if 0≤p.2∧p.2<(q.2.1:Int) then do
     let __do_lift ← sizeOf q.2.2
     pure (Value.pointer (some (a.add (p.2.toNat*__do_lift))))
    else
     if(decide (q.2.1≤1)&&match __do_lift with | TypeDesc.array len elem=>true | x=>false)=true then
      unsupported (Unsupported.noEntry "op/indexAddr.an index out of range at an array of length 0 or 1 (ledger 616)")
     else boundsPanic p.1 p.2 (q.2.1:Int) BoundsCode.index
   | none=>boundsPanic p.1 p.2 0 BoundsCode.index:Sem Value) Any:=by
  intro q
  refine Tm_bind (Tm_underlying fun d=>?_)
  cases q.1 with
  | none=>exact Tm_boundsPanic
  | some a=>exact Tm_ite (Tm_bind (Tm_sizeOf fun n=>trivial)) (Tm_ite trivial Tm_boundsPanic)
 split
 ·exact Tm_bind (Tm_sureAddr fun a=>Tm_bind (Tm_pure (key (some a,_,_))))
 ·exact Tm_bind (Tm_pure (key (_,_,_)))
 ·trivial
theorem Tm_field{t:TypeId}{x:Value}{f:Nat}:Tm P (Instr.field t x f) Any:=by
 unfold Instr.field
 refine Tm_bind (Tm_underlying fun d=>?_)
 split
 ·split
  ·refine Tm_bind ?_
   unfold asAgg
   split
   ·exact Tm_part fun _=>trivial
   ·trivial
  ·trivial
 ·trivial
theorem Tm_extract{x:Value}{i:Nat}:Tm P (Instr.extract x i) Any:=by
 unfold Instr.extract
 split
 ·split<;> trivial
 ·trivial
theorem Tm_makeInterface{t:TypeId}{x:Value}:Tm P (Instr.makeInterface t x) Any:=by
 unfold Instr.makeInterface
 refine Tm_bind (Tm_underlying fun d=>?_)
 split<;> trivial
theorem Tm_typeAssert{x:Value}{t u:TypeId}{ok:Bool}:Tm P (Instr.typeAssert x t u ok) Any:=by
 unfold Instr.typeAssert
 dsimp only
 have hf:∀(a b:Option TypeId) (m:String),Tm P (if ok=true then do
   let __do_lift ← zeroValue u
   pure (Value.tuple #[__do_lift,Value.bool false])
  else runtimePanic (RuntimeError.typeAssertion a b u m):Sem Value) Any:=fun a b m=>Tm_ite (Tm_bind (Tm_zeroValue fun _=>trivial)) Tm_runtimePanic
 refine Tm_bind (Tm_underlying fun d=>?_)
 split
 ·exact hf _ _ _
 ·refine Tm_bind (Tm_typeInfo fun i=>?_)
  split
  ·trivial
  ·exact hf _ _ _
 ·exact hf _ _ _
 ·exact Tm_ite trivial (hf _ _ _)
 ·trivial
theorem Tm_sliceBound{x:Value}{y:Nat}{c:BoundsCode}{Φ:Nat→Prop}(h:∀n,Φ n):Tm P (Instr.sliceBound x y c) Φ:=by
 unfold Instr.sliceBound
 refine Tm_bind (Tm_asIntOf fun p=>?_)
 dsimp only
 exact Tm_ite (h _) Tm_boundsPanic
theorem Tm_sliceBounds{b:Bool}{l c:Nat}{lo hi mx:Option Value}{Φ:Nat×Nat×Nat→Prop}(h:∀n,Φ n):Tm P (Instr.sliceBounds b l c lo hi mx) Φ:=by
 unfold Instr.sliceBounds
 dsimp only
 cases mx with
 | none=>
  simp only
  cases hi with
  | none=>cases lo with
   | none=>exact Tm_bind (Tm_pure (Tm_bind (Tm_pure (Tm_bind (Tm_pure (h _))))))
   | some z=>exact Tm_bind (Tm_pure (Tm_bind (Tm_pure (Tm_bind (Tm_sliceBound fun _=>h _)))))
  | some y=>cases lo with
   | none=>exact Tm_bind (Tm_pure (Tm_bind (Tm_sliceBound fun _=>Tm_bind (Tm_pure (h _)))))
   | some z=>exact Tm_bind (Tm_pure (Tm_bind (Tm_sliceBound fun _=>Tm_bind (Tm_sliceBound fun _=>h _))))
 | some x=>
  simp only
  cases hi with
  | none=>exact Tm_bind (Tm_sliceBound fun _=>Tm_bind trivial)
  | some y=>cases lo with
   | none=>exact Tm_bind (Tm_sliceBound fun _=>Tm_bind (Tm_sliceBound fun _=>Tm_bind (Tm_pure (h _))))
   | some z=>exact Tm_bind (Tm_sliceBound fun _=>Tm_bind (Tm_sliceBound fun _=>Tm_bind (Tm_sliceBound fun _=>h _)))
theorem Tm_slice{t:TypeId}{x:Value}{lo hi mx:Option Value}:Tm P (Instr.slice t x lo hi mx) Any:=by
 unfold Instr.slice
 refine Tm_bind (Tm_underlying fun d=>?_)
 split
 ·dsimp only
  exact Tm_ite (Tm_bind Tm_stuck) (Tm_bind (Tm_sliceBounds fun _=>trivial))
 ·exact Tm_bind (Tm_sliceBounds fun _=>Tm_bind (Tm_sizeOf fun _=>trivial))
 ·refine Tm_bind (Tm_asAddr fun a=>Tm_bind (Tm_underlying fun d=>?_))
  split
  ·exact Tm_bind (Tm_sliceBounds fun _=>Tm_bind (Tm_sizeOf fun _=>trivial))
  ·trivial
 ·trivial
theorem Tm_sliceAt{t:TypeId}{x:Value}{lo hi mx:Option Value}:Tm P (Instr.sliceAt t x lo hi mx) Any:=by
 unfold Instr.sliceAt
 refine Tm_bind (Tm_underlying fun d=>?_)
 split
 ·exact Tm_bind (Tm_sureAddr fun a=>Tm_bind (Tm_sliceBounds fun _=>Tm_bind (Tm_sizeOf fun _=>trivial)))
 ·exact Tm_slice
theorem Tm_makeSlice{t:TypeId}{l c:Value}:Tm P (Instr.makeSlice t l c) Any:=by
 unfold Instr.makeSlice
 refine Tm_bind (Tm_underlying fun d=>?_)
 split
 ·refine Tm_bind (Tm_asInt fun l=>Tm_bind (Tm_asInt fun c=>Tm_bind (Tm_typeInfo fun i=>?_)))
  dsimp only
  have key:∀(r:Unit) (e:TypeId) (l c:Int) (i:TypeInfo),Tm P (do
    askRoom ((IntKind.i64.wrap c).toNat*i.bytes)
    let __do_lift ← sizeOf e
    let __do_jp:Array Value→Sem Value:=fun zero=>do
     let a ← newRow e ((Array.range ((IntKind.i64.wrap c).toNat*__do_lift)).map fun x=>zero[x%zero.size]!)
     pure (.slice (some a) (IntKind.i64.wrap l).toNat (IntKind.i64.wrap c).toNat)
    if(IntKind.i64.wrap c).toNat*__do_lift=0 then do
     let y ← pure #[]
     __do_jp y
    else do
     let y ← zeroValue e
     let y ← pure y.cells
     __do_jp y:Sem Value) Any:=by
   intro r e l c i
   refine Tm_bind (Tm_askRoom (Tm_bind (Tm_sizeOf fun n=>?_)))
   dsimp only
   exact Tm_ite (Tm_bind (Tm_pure (Tm_bind (Tm_newRow fun _=>trivial)))) (Tm_bind (Tm_zeroValue fun z=>Tm_bind (Tm_pure (Tm_bind (Tm_newRow fun _=>trivial)))))
  split
  ·split
   ·exact Tm_bind Tm_runtimePanic
   ·split
    ·exact Tm_bind Tm_runtimePanic
    ·exact Tm_bind (Tm_choose fun _=>Tm_bind Tm_runtimePanic)
  ·exact key () _ _ _ _
 ·trivial
theorem Tm_len{ats:Array TypeId}{ty:TypeId}{args:Array Value}:Tm P (Builtin.len_ ats ty args) Any:=by
 unfold Builtin.len_
 split
 ·refine Tm_bind (Tm_underlying fun d=>?_)
  split<;> first
   | trivial
   | (refine Tm_bind (Tm_getObj fun o=>?_);split<;> trivial)
   | (refine Tm_bind (Tm_underlying fun d=>?_);split<;> trivial)
 ·trivial
/-! ### values without addresses -/
inductive Flat:Value→Prop
 | bool (b:Bool):Flat (.bool b)
 | int (k:IntKind) (n:Int):Flat (.int k n)
 | str (s:ByteArray):Flat (.string s)
 | agg (cs:Array Value) (h:∀i (h:i<cs.size),Flat cs[i]):Flat (.agg cs)
theorem Tm_partF{t:TypeId}{cs:Array Value}{off:Nat}{Φ:Value→Prop}(hc:Flat (.agg cs))(h:∀v,Flat v→Φ v):Tm P (part t cs off) Φ:=by
 cases hc with
 | agg _ hc=>
  unfold part;refine Tm_bind (Tm_isAgg fun i=>?_);split
  ·refine Tm_bind (Tm_sizeOf fun n=>h _ (.agg _ fun i hi=>?_))
   rw[Array.getElem_extract];exact hc _ _
  ·split
   ·rename_i v hv
    obtain⟨h1,rfl⟩:=Array.getElem?_eq_some_iff.1 hv
    exact h _ (hc _ h1)
   ·trivial
theorem Tm_forIn{α β:Type}{f:α→β→Sem (ForInStep β)}{Φ:β→Prop}(h:∀b,Φ b)(hf:∀a b,Tm P (f a b) Any):∀(l:List α) (b:β),Tm P (forIn l b f) Φ
 | [],b=>by rw[List.forIn_nil];exact h b
 | a::l,b=>by
  rw[List.forIn_cons]
  refine Tm_bind (Tm_mono (hf a b) fun s _=>?_)
  cases s with
  | done b=>exact h b
  | yield b=>exact Tm_forIn h hf l b
theorem Tm_forInA{α β:Type}{f:α→β→Sem (ForInStep β)}{Φ:β→Prop}(h:∀b,Φ b)(hf:∀a b,Tm P (f a b) Any)(l:Array α)(b:β):Tm P (forIn l b f) Φ:=by
 rw[← Array.forIn_toList];exact Tm_forIn h hf _ _
theorem Tm_forInR{β:Type}{f:Nat→β→Sem (ForInStep β)}{Φ:β→Prop}(h:∀b,Φ b)(hf:∀a b,Tm P (f a b) Any)(n:Nat)(b:β):Tm P (forIn [0:n] b f) Φ:=by
 rw[Std.Legacy.Range.forIn_eq_forIn_range'];exact Tm_forIn h hf _ _
theorem Tm_equalIn:∀(d:Nat) (t:TypeId) (x y:Value),Flat x→Tm P (Op.equalIn d t x y) Any
 | 0,_,_,_,_=>trivial
 | d+1,t,x,y,hx=>by
  unfold Op.equalIn
  refine Tm_bind (Tm_underlying fun u=>?_)
  have hx':=hx
  cases hx<;> dsimp only<;> split<;> first
   | trivial
   | exact Tm_ite trivial trivial
   | (exfalso;simp_all;done)
   | skip
  ·rename_i xs ys hxs
   have hxs:=(Value.agg.inj hxs).symm;subst hxs
   refine Tm_bind (Tm_program ?_)
   refine Tm_ite (Tm_bind Tm_unsup) (Tm_bind (Tm_forInA (fun b=>?_) (fun f b=>?_) _ _))
   ·cases b.1<;> trivial
   ·refine Tm_ite (Tm_bind (Tm_partF hx' fun v hv=>Tm_bind (Tm_part fun w=>Tm_bind (Tm_mono (Tm_equalIn d _ _ _ hv) fun b _=>?_)))) trivial
    exact Tm_ite trivial trivial
  ·rename_i xs ys hxs
   have hxs:=(Value.agg.inj hxs).symm;subst hxs
   refine Tm_bind (Tm_sizeOf fun n=>Tm_bind (Tm_forInR (fun b=>?_) (fun f b=>?_) _ _))
   ·cases b.1<;> trivial
   ·refine Tm_bind (Tm_partF hx' fun v hv=>Tm_bind (Tm_part fun w=>Tm_bind (Tm_mono (Tm_equalIn d _ _ _ hv) fun b _=>?_)))
    exact Tm_ite trivial trivial
theorem Tm_equal{t:TypeId}{x y:Value}(h:Flat x):Tm P (Op.equal t x y) Any:=Tm_equalIn _ _ _ _ h
theorem Tm_checkKey{e:Bool}:∀(n:Nat) (t:TypeId) (x:Value) {Φ:Unit→Prop},Flat x→Φ ()→Tm P (Instr.checkKey e n t x) Φ
 | 0,_,_,_,_,_=>trivial
 | n+1,t,x,Φ,hx,hΦ=>by
  unfold Instr.checkKey
  refine Tm_bind (Tm_underlying fun u=>?_)
  have hx':=hx
  cases hx<;> dsimp only<;> split<;> first
   | trivial
   | exact hΦ
   | (exfalso;simp_all;done)
   | skip
  ·rename_i xs hxs
   have hxs:=(Value.agg.inj hxs).symm;subst hxs
   refine Tm_bind (Tm_forInR (fun b=>hΦ) (fun f b=>?_) _ _)
   refine Tm_bind (Tm_sizeOf fun m=>Tm_bind (Tm_partF hx' fun v hv=>Tm_bind (Tm_checkKey n _ _ hv trivial)))
  ·rename_i xs hxs
   have hxs:=(Value.agg.inj hxs).symm;subst hxs
   refine Tm_bind (Tm_forInA (fun b=>hΦ) (fun f b=>?_) _ _)
   exact Tm_ite (Tm_bind (Tm_partF hx' fun v hv=>Tm_bind (Tm_checkKey n _ _ hv trivial))) trivial
theorem Tm_findAsking{t:TypeId}{k:Value}{Φ:Option (Nat×Value)→Prop}(hk:Flat k)(h:∀r,Φ r):∀(es:List MapEntry) (i:Nat),Tm P (Instr.findAsking t k es i) Φ
 | [],i=>h _
 | e::es,i=>by
  unfold Instr.findAsking
  refine Tm_bind (Tm_mono (Tm_equal hk) fun b _=>?_)
  exact Tm_ite (h _) (Tm_findAsking hk h es _)
theorem Tm_findKey{t:TypeId}{k:Value}{es:List MapEntry}{Φ:Option (Nat×Value)→Prop}(hk:Flat k)(h:∀r,Φ r):Tm P (Instr.findKey t k es) Φ:=by
 unfold Instr.findKey
 refine Tm_bind (Tm_underlying fun u=>?_)
 split
 ·exact h _
 ·exact Tm_findAsking hk h _ _
theorem Tm_lookup{t:TypeId}{m k:Value}{ok:Bool}(hk:Flat k):Tm P (Instr.lookup t m k ok) Any:=by
 unfold Instr.lookup
 refine Tm_bind (Tm_underlying fun u=>?_)
 have tail:∀(key elem:TypeId) (es:Array MapEntry),Tm P (do
   Instr.checkKey es.isEmpty 10000 key k
   let __do_lift ← Instr.findKey key k es.toList
   let __do_jp:Value×Bool→Sem Value:=fun __x=>match __x with | (v,ok')=>pure (if ok=true then .tuple #[v,.bool ok'] else v)
   match __do_lift with
   | some (_,v)=>do
    let __x ← pure (v,true)
    __do_jp __x
   | none=>do
    let __do_lift ← zeroValue elem
    let __x ← pure (__do_lift,false)
    __do_jp __x:Sem Value) Any:=by
  intro key elem es
  refine Tm_bind (Tm_checkKey _ _ _ hk (Tm_bind (Tm_findKey hk fun r=>?_)))
  dsimp only
  split
  ·trivial
  ·exact Tm_bind (Tm_zeroValue fun z=>trivial)
 split
 ·dsimp only
  split
  ·exact Tm_bind (Tm_pure (tail _ _ _))
  ·refine Tm_bind (Tm_getObj fun o=>?_)
   split
   ·exact Tm_bind (Tm_pure (tail _ _ _))
   ·trivial
  ·trivial
 ·trivial
theorem Tm_mapUpdate{t:TypeId}{m k x:Value}(hk:Flat k):Tm P (Instr.mapUpdate t m k x) Any:=by
 unfold Instr.mapUpdate
 refine Tm_bind (Tm_underlying fun u=>?_)
 split
 ·split
  ·exact Tm_runtimePanic
  ·refine Tm_bind (Tm_getObj fun o=>?_)
   split
   ·refine Tm_bind (Tm_checkKey _ _ _ hk (Tm_bind (Tm_findKey hk fun r=>?_)))
    split
    ·refine Tm_bind ?_
     unfold Instr.keyThatStays
     refine Tm_ite ?_ (Tm_bind (Tm_choose fun n=>?_))<;> exact⟨rfl,trivial⟩
    ·exact Tm_setObj rfl trivial
   ·trivial
  ·trivial
 ·trivial
theorem Tm_mayShare{α:Type}{size n m:Nat}{base:Option Addr}{x:Value}{f:Bool→Sem α}{Φ:α→Prop}(h:∀b,Doom P (f b))(hf:∀b,Tm P (f b) Φ):Tm P (Builtin.mayShare size n m base x >>= f) Φ:=by
 have hh:∀{β:Type} (a:Addr) (k:Nat) (g:Bool→Sem β) (Ψ:β→Prop),(∀b,Doom P (g b))→Tm P (Builtin.holdsCells a k >>= g) Ψ:=by
  intro β a k g Ψ hg
  unfold Builtin.holdsCells
  exact fun s=>Doom_bind _ _ hg
 unfold Builtin.mayShare
 cases base with
 | none=>
  cases x with
  | slice a l c=>cases a with
   | none=>exact hf _
   | some b=>exact fun s=>Doom_bind _ _ fun _=>h _
  | _=>exact hf _
 | some a=>exact fun s=>Doom_bind _ _ fun _=>h _
theorem Tm_append{ats:Array TypeId}{ty t0 t1 e e':TypeId}{s x:Value}(g0:ats[0]? = some t0)(g1:ats[1]? = some t1)(h0:P.underlying t0=some (.slice e))(h1:P.underlying t1=some (.slice e')):Tm P (Builtin.append_ ats ty #[s,x]) Any:=by
 unfold Builtin.append_
 simp only[g0,g1,List.getElem?_toArray,List.getElem?_cons_zero,List.getElem?_cons_succ]
 refine Tm_bind (Tm_underlyingP fun d hd=>?_)
 rw[h0] at hd;cases hd
 simp only
 split
 ·refine Tm_bind (Tm_sizeOf fun size=>Tm_bind (Tm_underlyingP fun d hd=>?_))
  rw[h1] at hd;cases hd
  refine Tm_bind (Tm_pure ?_)
  simp only[Bool.false_eq_true,if_false,Bool.not_false,if_true,false_or]
  refine Tm_bind (Tm_lenOf fun n=>?_)
  refine Tm_ite (Tm_bind (Tm_firstCells fun new=>?_)) ?_
  ·split
   ·exact Tm_bind (Tm_storeCells trivial _ _)
   ·trivial
  ·refine Tm_bind (Tm_typeInfo fun i=>?_)
   refine Tm_ite (Tm_bind Tm_runtimePanic) ?_
   refine Tm_bind (Tm_typeInfo fun i=>?_)
   refine Tm_ite ?_ ?_
   ·refine Tm_bind (Tm_mayShare (fun b=>?_) (fun b=>?_))
    ·split
     ·exact Doom_bind _ _ fun _=>trivial
     ·trivial
    ·exact Tm_ite (Tm_bind (.inl ⟨rfl,trivial⟩)) trivial
   ·exact Tm_bind (Tm_choose fun c=>Tm_bind (Tm_typeInfo fun i=>Tm_bind (Tm_askRoom (Tm_bind (Tm_firstCells fun o=>Tm_bind (Tm_firstCells fun o2=>Tm_bind (Tm_zeroValue fun z=>Tm_bind (Tm_newRow fun a=>trivial))))))))
 ·trivial
theorem Tm_bytes{x:Value}:Tm P (Conv.bytesToString x) Any:=by
 unfold Conv.bytesToString
 dsimp only
 split
 ·trivial
 ·refine Tm_bind (Tm_loadCells fun cs=>Tm_bind (Tm_forInA (fun b=>trivial) (fun a b=>?_) _ _))
  split<;> trivial
 ·trivial
theorem Tm_intArith{op:BinOp}{k:IntKind}{x y:Int}:Tm P (Op.intArith op k x y) Any:=by
 unfold Op.intArith;split<;> trivial
theorem Tm_max2{x y:Value}:Tm P (Builtin.max2 x y) Any:=by
 unfold Builtin.max2
 split
 ·trivial
 ·split
  ·exact Tm_bind (Tm_choose fun _=>trivial)
  ·trivial
  ·trivial
  ·trivial
 ·exact Tm_bind (Tm_pure (Tm_bind (Tm_asBool fun b=>trivial)))
 all_goals trivial
theorem Tm_min2{x y:Value}:Tm P (Builtin.min2 x y) Any:=by
 unfold Builtin.min2
 split
 ·trivial
 ·split
  ·exact Tm_bind (Tm_choose fun _=>trivial)
  ·trivial
  ·trivial
  ·trivial
 ·exact Tm_bind (Tm_pure (Tm_bind (Tm_asBool fun b=>trivial)))
 all_goals trivial
theorem Tm_foldlM{f:Value→Value→Sem Value}(h:∀x y,Tm P (f x y) Any):∀(l:List Value) (x:Value),Tm P (l.foldlM f x) Any
 | [],x=>trivial
 | y::l,x=>by rw[List.foldlM_cons];exact Tm_bind (Tm_mono (h _ _) fun z _=>Tm_foldlM h l z)
theorem Tm_max{ats:Array TypeId}{ty:TypeId}{args:Array Value}:Tm P (Builtin.max_ ats ty args) Any:=by
 unfold Builtin.max_;split
 ·trivial
 ·exact Tm_foldlM (fun _ _=>Tm_max2) _ _
theorem Tm_min{ats:Array TypeId}{ty:TypeId}{args:Array Value}:Tm P (Builtin.min_ ats ty args) Any:=by
 unfold Builtin.min_;split
 ·trivial
 ·exact Tm_foldlM (fun _ _=>Tm_min2) _ _
end Go.Mu
