/- Strings: made of bytes, gone through byte by byte. -/
import Derived.Test.YtgbdndlmdklefaaGreatHK03
import Derived.Test.YtgbdndlmdklefaaGreatHK04
import Derived.Laws.BytesArg
import Derived.CallsIn
import Derived.Conc.Events
set_option linter.unusedSimpArgs false
set_option linter.unusedVariables false
namespace Go.Mu
open Go
variable {P:Program}{ty:Nat→TI}{K:Kr}
theorem sF:∀{xs:List AV} {ns:List Int},lC xs=some ns→xs=ns.map (AV.int .u8)
 | [],ns,h=>by simp[lC] at h;subst h;rfl
 | .int .u8 n::l,ns,h=>by
  simp only[lC,Option.map_eq_some_iff] at h
  obtain⟨m,h1,rfl⟩:=h
  rw[sF h1];rfl
theorem F6(hT:b9 P ty){σ:List aa}{w:World}(hR:R K σ w){s d e sz:Nat}{t:Tok}{xs:List AV}{ns:List Int}(hs:(ty s).kd= .slice e)(hd:(ty d).kd= .str)(he:(ty e).kd= .int .u8)(hz:sz=1∨xs=[])(hb:lC xs=some ns)
  {c:Value} (hv:VR K σ.length (.list t sz xs) c):(convert s d c).run P w= .ok (.string (strOfNums ns)) w:=by
 obtain⟨d1,k1,u1⟩:=(hT s (by rw[hs];simp)).kd
 rw[hs] at u1;simp only[bV] at u1;subst u1
 obtain⟨d2,k2,u2⟩:=(hT d (by rw[hd];simp)).kd
 rw[hd] at u2;simp only[bV] at u2;subst u2
 obtain⟨d3,k3,u3⟩:=(hT e (by rw[he];simp)).kd
 rw[he] at u3;simp only[bV] at u3;subst u3
 obtain rfl:=sF hb
 cases hv with
 | list _ _ _ a cap f q1 q2 q3 q4 q5 q6=>
  by_cases hne:ns=[]
  ·subst hne
   cases a with
   | none=>rw[run_convert_bytes_nil w s e k1 k3 _ _ d k2];rfl
   | some a=>
    have e0:=run_bytesToString (P:=P) w a 0 cap [] (run_loadCells_list (P:=P) w a [] (by simp))
    rw[run_convert_bytes_string w s d e _ _ _ k1 k3 k2]
    exact e0
  ·obtain⟨b,o,rfl,h⟩:=q3 (by simpa using hne)
   have hz':sz=1:=by rcases hz with h | h;exact h;exact absurd (by simpa using h) hne
   subst hz'
   refine run_convert_bytes_arg w s e k1 k3 b o _ cap ns (by simp) (fun i hi=>?_) d k2
   have hi':i<ns.length:=by simpa using hi
   have h1:=h i 0 hi (by omega)
   rw[Nat.mul_one,Nat.add_zero] at h1
   rw[hR.stab _ _ _ h1]
   have h2:=q6 i 0 hi (by simp[AV.cells])
   simp only[List.getElem_map,AV.cells,List.getElem_cons_zero] at h2
   rw[h2.bY]
   simp[List.getD,List.getElem?_eq_getElem hi']
theorem ym(hT:b9 P ty){σ:List aa}{w:World}(hR:R K σ w){t:Nat}{s:ByteArray}(hk:(ty t).kd= .str) :
  ∃c K' w',(Instr.range t (.string s)).run P w= .ok c w'∧VR K' (σ.length+1) (.ptr σ.length 0) c∧R K' (σ++[.siter s 0]) w'∧Step K σ w K' (σ++[.siter s 0]) w':=by
 obtain⟨d,hd,hu⟩:=aL hT (t:=t) (by rw[hk];simp)
 rw[hk] at hd
 simp only[bV] at hd
 subst hd
 obtain⟨r1,r2⟩:=hR.new (.siter s 0) (.stringIter s 0) (K.setφ σ.length w.heap.size) (Ext.setφ K _ _) (fun _ _=>rfl) (fun b p v hv=> .inl hv) (fun b hb=>by
  have:b=(K.setφ σ.length w.heap.size).φ σ.length:=hb
  simpa only[Kr.setφ,if_true] using this) (by
   show(w.alloc (.stringIter s 0)).heap[(K.setφ σ.length w.heap.size).φ σ.length]? = _
   simp only[Kr.setφ,if_true];exact heap_alloc_new w _)
 refine⟨.pointer (some ⟨w.heap.size,0,none⟩),_,_,?_,?_,r1,r2⟩
 ·simp only[Instr.range,Sem.run_bind,hu w,Result.andThen_ok,Sem.run_pure];rfl
 ·have:=VR.ptr (K:=K.setφ σ.length w.heap.size) (n:=σ.length+1) σ.length 0 (by omega)
  simpa[Kr.setφ] using this
def jB(X:AV→List aa→Prop)(σ:List aa)(r:Nat)(s:ByteArray)(pos:Nat):Option UInt8→Prop
 | some b=>b.toNat<128∧X (.tup [.bool true,.int .i64 pos,.int .i32 b.toNat]) (ax σ r (.siter s (pos+1)))
 | none=>X (.tup [.bool false]) σ
def lD(X:AV→List aa→Prop)(σ:List aa)(r:Nat):Option aa→Prop
 | some (.siter s pos)=>jB X σ r s pos s[pos]?
 | _=>False
def ko(X:AV→List aa→Prop)(σ:List aa):Option AV→Prop
 | some (.ptr r 0)=>lD X σ r (ai σ r)
 | _=>False
theorem Dh{σ:List aa}{v:Option AV}{X Y:AV→List aa→Prop}(hn:∀v σ,X v σ→Y v σ)(h:ko X σ v):ko Y σ v:=by
 unfold ko at h⊢
 split at h
 ·unfold lD at h⊢
  split at h
  ·unfold jB at h⊢
   split at h
   ·exact⟨h.1,hn _ _ h.2⟩
   ·exact hn _ _ h
  ·exact h
 ·exact h
theorem xf{w:World}{b p:Nat}{s:ByteArray}{q:Nat}(h:w.heap[b]? = some (.stringIter s q)):w.cell? ⟨b,p,none⟩= none:=by simp[World.cell?,h]
theorem Ag{s:ByteArray}{i:Nat}{b:UInt8}(h:s[i]? = some b)(hb:b.toNat<128):Utf8.decode s i=(b.toNat,1):=by
 obtain⟨hi,he⟩:=getElem?_eq_some_iff.1 h
 have hg:s.get! (i+0)=b:=by
  rw[Nat.add_zero,← he]
  show s.data[i]! = _
  have hi2:i<s.data.size:=hi
  rw[getElem!_pos s.data i hi2]
  rfl
 simp only[Utf8.decode,hg]
 rw[if_pos hb]
theorem wS{σ:List aa}{w:World}(hR:R K σ w){a:AV}{ca:Value}(ha:VR K σ.length a ca){T:TypeId}{X:AV→List aa→Prop}(hX:ko X σ (some a)) :
  ∃v σ' c' w',(Instr.next ca true T).run P w= .ok c' w'∧X v σ'∧VR K σ'.length v c'∧R K σ' w'∧Step K σ w K σ' w':=by
 unfold ko at hX
 split at hX
 ·rename_i r he
  simp at he;subst he
  unfold lD at hX
  split at hX
  ·rename_i s pos hg
   obtain⟨hr,rfl⟩:=ha.gl
   have g1:w.heap[K.φ r]? = some (.stringIter s pos):=hR.obj r _ hg
   have ai:(getObj (K.φ r)).run P w= .ok (.stringIter s pos) w:=by simp[getObj,Sem.run,g1]
   cases hb:s[pos]? with
   | some b=>
    rw[hb] at hX
    simp only[jB] at hX
    obtain⟨hlt,hX⟩:=hX
    obtain⟨hi,_⟩:=getElem?_eq_some_iff.1 hb
    have hi':pos<s.size:=hi
    obtain⟨r1,r2⟩:=hR.oA hg rfl (fun p=>xf g1) (bJ g1) (.siter s (pos+1)) (.stringIter s (pos+1)) (fun b hb=>hb) (by show frz w.heap[K.φ r]? = _;rw[g1];rfl) (fun w' hw'=>hw')
    have ax:(setObj (K.φ r) (.stringIter s (pos+1))).run P w= .ok () {w with heap:=w.heap.setIfInBounds (K.φ r) (.stringIter s (pos+1))}:=by simp[setObj,Sem.run,g1]
    refine⟨_,_,.tuple #[.bool true,.int .i64 pos,.int .i32 b.toNat],_,?_,hX,?_,r1,r2⟩
    ·simp only[Instr.next,Sem.run_bind,ai,Result.andThen_ok,hi',if_true,Ag hb hlt,ax,Sem.run_pure]
     rfl
    ·exact VRs.tup (cs:=#[.bool true,.int .i64 pos,.int .i32 b.toNat]) (.cons (.bool _) (.cons (.int _ _) (.cons (.int _ _) .nil)))
   | none=>
    rw[hb] at hX
    simp only[jB] at hX
    have hi:¬pos<s.size:=fun h=>by
     rw[getElem?_pos s pos h] at hb;cases hb
    refine⟨_,_,.tuple #[.bool false],w,?_,hX,VRs.tup (cs:=#[.bool false]) (.cons (.bool _) .nil),hR,.refl _ _ _⟩
    simp only[Instr.next,Sem.run_bind,ai,Result.andThen_ok,hi,if_false,Sem.run_pure]
  ·exact hX.elim
 ·exact hX.elim
end Go.Mu
namespace Go.Mu
open Go
def jG:Obj→Bool
 | .view .. | .chan .. | .pending .. =>false
 | _=>true
def da(P:Program){α:Type}:Sem α→Prop
 | .pure _=>False
 | .load _ _ k=>∀v,da P (k v)
 | .store _ _ _ k=>da P k
 | .new _ k=>∀r,da P (k r)
 | .shape _ k=>∀s,da P (k s)
 | .freeze _ _ k=>da P k
 | .frozen _ k=>∀b,da P (k b)
 | .getObj _ k=>∀o,da P (k o)
 | .setObj _ _ k=>da P k
 | .choose _ k=>∀n,da P (k n)
 | .sys _ k=>∀r,da P (k r)
 | .program k=>da P (k P)
 | .mark _ k=>da P k
 | .halt _=>True
def Tm(P:Program){α:Type}:Sem α→(α→Prop)→Prop
 | .pure a,Φ=>Φ a
 | .load m _ k,Φ=>m= .plain∧∀v,Tm P (k v) Φ
 | .store m _ _ k,Φ=>m= .plain∧Tm P k Φ
 | .new o k,Φ=>jG o=true∧∀r,Tm P (k r) Φ
 | .shape _ k,_=>∀s,da P (k s)
 | .freeze _ _ k,_=>da P k
 | .frozen _ k,_=>∀b,da P (k b)
 | .getObj _ k,Φ=>∀o,Tm P (k o) Φ
 | .setObj _ o k,Φ=>jG o=true∧Tm P k Φ
 | .choose _ k,Φ=>∀n,Tm P (k n) Φ
 | .sys _ k,_=>∀r,da P (k r)
 | .program k,Φ=>Tm P (k P) Φ
 | .mark m k,Φ=>m= .noRoom∧Tm P k Φ∨da P k
 | .halt _,_=>True
theorem da.pE{P:Program}{α:Type}{s:Sem α}:da P s→∀{w:World} {a:α} {w':World},s.run P w≠ .ok a w':=by
 induction s with
 | pure a=>intro h;exact h.elim
 | load m a k ih=>
  intro h w a w' e
  simp only[Sem.run] at e
  split at e
  ·exact ih _ (h _) e
  ·split at e
   ·exact ih _ (h _) e
   ·cases e
 | store m a v k ih=>
  intro h w b w' e
  cases v<;> simp only[Sem.run] at e<;> (first | (cases e;done) | skip)<;>
   (split at e
    ·split at e
     ·cases e
     ·exact ih h e
    ·split at e
     ·exact ih h e
     ·cases e)
 | new o k ih=>intro h w a w' e;exact ih _ (h _) e
 | shape r k ih=>intro h w a w' e;exact ih _ (h _) e
 | freeze a n k ih=>intro h w b w' e;exact ih h e
 | frozen a k ih=>intro h w b w' e;exact ih _ (h _) e
 | getObj r k ih=>
  intro h w a w' e
  simp only[Sem.run] at e
  split at e
  ·cases e
  ·exact ih _ (h _) e
  ·cases e
 | setObj r o k ih=>
  intro h w a w' e
  simp only[Sem.run] at e
  split at e
  ·cases e
  ·exact ih h e
  ·cases e
 | choose q k ih=>
  intro h w a w' e
  simp only[Sem.run] at e
  split at e
  ·exact ih _ (h _) e
  ·exact ih _ (h _) e
 | sys c k ih=>intro h w a w' e;exact ih _ (h _) e
 | program k ih=>intro h w a w' e;exact ih _ h e
 | mark m k ih=>intro h w a w' e;exact ih h e
 | halt h0=>intro h w a w' e;cases e
theorem mz{P:Program}{α β:Type}(x:Sem α)(f:α→Sem β):(∀a,da P (f a))→da P (x >>= f):=by
 intro hf
 show da P (x.bind f)
 induction x with
 | pure a=>exact hf a
 | load m a k ih=>exact fun v=>ih v
 | store m a v k ih=>exact ih
 | new o k ih=>exact fun r=>ih r
 | shape r k ih=>exact fun s=>ih s
 | freeze a n k ih=>exact ih
 | frozen a k ih=>exact fun b=>ih b
 | getObj r k ih=>exact fun o=>ih o
 | setObj r o k ih=>exact ih
 | choose q k ih=>exact fun n=>ih n
 | sys c k ih=>exact fun r=>ih r
 | program k ih=>exact ih _
 | mark m k ih=>exact ih
 | halt h=>trivial
theorem ji{P:Program}{α β:Type}(x:Sem α)(f:α→Sem β)(h:da P x):da P (x >>= f):=by
 show da P (x.bind f)
 induction x with
 | pure a=>exact h.elim
 | load m a k ih=>exact fun v=>ih v (h v)
 | store m a v k ih=>exact ih h
 | new o k ih=>exact fun r=>ih r (h r)
 | shape r k ih=>exact fun s=>ih s (h s)
 | freeze a n k ih=>exact ih h
 | frozen a k ih=>exact fun b=>ih b (h b)
 | getObj r k ih=>exact fun o=>ih o (h o)
 | setObj r o k ih=>exact ih h
 | choose q k ih=>exact fun n=>ih n (h n)
 | sys c k ih=>exact fun r=>ih r (h r)
 | program k ih=>exact ih _ h
 | mark m k ih=>exact ih h
 | halt h=>trivial
theorem dz{P:Program}{α:Type}{s:Sem α}{Φ Ψ:α→Prop}(h:Tm P s Φ)(hi:∀a,Φ a→Ψ a):Tm P s Ψ:=by
 induction s with
 | pure a=>exact hi _ h
 | load m a k ih=>exact⟨h.1,fun v=>ih v (h.2 v)⟩
 | store m a v k ih=>exact⟨h.1,ih h.2⟩
 | new o k ih=>exact⟨h.1,fun r=>ih r (h.2 r)⟩
 | shape r k ih=>exact h
 | freeze a n k ih=>exact h
 | frozen a k ih=>exact h
 | getObj r k ih=>exact fun o=>ih o (h o)
 | setObj r o k ih=>exact⟨h.1,ih h.2⟩
 | choose q k ih=>exact fun n=>ih n (h n)
 | sys c k ih=>exact h
 | program k ih=>exact ih _ h
 | mark m k ih=>exact h.imp (fun h=>⟨h.1,ih h.2⟩) id
 | halt h=>trivial
theorem ab{P:Program}{α β:Type}{x:Sem α}{f:α→Sem β}{Φ:β→Prop}(h:Tm P x fun a=>Tm P (f a) Φ):Tm P (x >>= f) Φ:=by
 show Tm P (x.bind f) Φ
 induction x with
 | pure a=>exact h
 | load m a k ih=>exact⟨h.1,fun v=>ih v (h.2 v)⟩
 | store m a v k ih=>exact⟨h.1,ih h.2⟩
 | new o k ih=>exact⟨h.1,fun r=>ih r (h.2 r)⟩
 | shape r k ih=>exact fun s=>ji _ _ (h s)
 | freeze a n k ih=>exact ji _ _ h
 | frozen a k ih=>exact fun b=>ji _ _ (h b)
 | getObj r k ih=>exact fun o=>ih o (h o)
 | setObj r o k ih=>exact⟨h.1,ih h.2⟩
 | choose q k ih=>exact fun n=>ih n (h n)
 | sys c k ih=>exact fun r=>ji _ _ (h r)
 | program k ih=>exact ih _ h
 | mark m k ih=>exact h.imp (fun h=>⟨h.1,ih h.2⟩) (fun h=>ji _ _ h)
 | halt h=>trivial
/-! ### the locality of a safe run -/
structure fX(n:Nat)(A B:Nat→Prop)(w₀ w:World):Prop where
 size:w₀.heap.size=w.heap.size
 le:n≤w.heap.size
 new:∀b:Nat,n≤b→w₀.heap[b]? = w.heap[b]?
 old:∀b:Nat,b<n→A b∧w₀.heap[b]? = w.heap[b]?∨B b∧(∃c T f,w.heap[b]? = some (.cells c T f)∧w₀.heap[b]? = some (.cells c T (0,c.size)))∨w₀.heap[b]? = some (.cells #[] 0 (0,0))
 plain:∀(b:Nat) o,w₀.heap[b]? = some o→jG o=true
 tape:w₀.tape=w.tape
 drawn:w₀.drawn=w.drawn
 os:w₀.os=w.os
def jw(n:Nat)(A B:Nat→Prop)(top:Nat)(e:Event):Prop:=
 match e.loc with
 | .cell a=>a.block<top∧e.sync=false∧(n≤a.block∨A a.block∨(B a.block∧e.write=false))
 | .obj r=>r<top∧e.sync=false∧(n≤r∨A r)
 | .mark m=>m= .noRoom
 | _=>False
theorem fX.lt{n:Nat}{A B:Nat→Prop}{w₀ w:World}(h:fX n A B w₀ w){b:Nat}{o:Obj}(ho:w₀.heap[b]? = some o):b<w.heap.size:=by
 rw[← h.size];exact(Array.getElem?_eq_some_iff.1 ho).1
theorem fX.far{n:Nat}{A B:Nat→Prop}{w₀ w:World}(h:fX n A B w₀ w)(P:Program)(a:Addr)(m:Bool):∃e,w₀.farLoad P a m= .error e:=by
 unfold World.farLoad
 split
 ·rename_i x y hx
  have:=h.plain _ _ hx
  simp[jG] at this
 ·exact⟨_,rfl⟩
theorem fX.VO{n:Nat}{A B:Nat→Prop}{w₀ w:World}(h:fX n A B w₀ w)(P:Program)(a:Addr)(v:Value)(m:Bool):∃e,w₀.farStore P a v m= .error e:=by
 unfold World.farStore
 split
 ·rename_i x y hx
  have:=h.plain _ _ hx
  simp[jG] at this
 ·exact⟨_,rfl⟩
theorem fX.cell{n:Nat}{A B:Nat→Prop}{w₀ w:World}(h:fX n A B w₀ w){a:Addr}{v:Value}(hv:w₀.cell? a=some v) :
  w.cell? a=some v∧a.block<w.heap.size∧((n≤a.block∨A a.block)∧w₀.heap[a.block]? = w.heap[a.block]?∨(B a.block∧w₀.frozen? a=true)):=by
 unfold World.cell? at hv⊢
 split at hv
 ·rename_i c e f hc
  have hlt:=h.lt hc
  split at hv
  ·cases hv
  ·rename_i hs
   have key:(n≤a.block∨A a.block)∧w₀.heap[a.block]? = w.heap[a.block]?→w.cell? a=some v:=fun g=>by
    unfold World.cell?
    rw[← g.2,hc];simp only[hs];exact hv
   rcases Nat.lt_or_ge a.block n with hb | hb
   ·rcases h.old _ hb with g | ⟨g1,c',T,f',g2,g3⟩ | g
    ·exact⟨by have:=key ⟨.inr g.1,g.2⟩;unfold World.cell? at this;exact this,hlt,.inl ⟨.inr g.1,g.2⟩⟩
    ·rw[hc] at g3
     simp only[Option.some.injEq,Obj.cells.injEq] at g3
     obtain⟨rfl,rfl,rfl⟩:=g3
     refine⟨by rw[g2];simp only[hs];exact hv,hlt,.inr ⟨g1,?_⟩⟩
     have:=(Array.getElem?_eq_some_iff.1 hv).1
     unfold World.frozen?
     rw[hc];simp[this]
    ·rw[hc] at g
     simp only[Option.some.injEq,Obj.cells.injEq] at g
     obtain⟨rfl,_,_⟩:=g
     simp at hv
   ·have g:=h.new _ hb
    exact⟨by have:=key ⟨.inl hb,g⟩;unfold World.cell? at this;exact this,hlt,.inl ⟨.inl hb,g⟩⟩
 ·cases hv
theorem fX.Ml{n:Nat}{A B:Nat→Prop}{w₀ w:World}(h:fX n A B w₀ w){r:Nat}{o:Obj}(ho:w₀.heap[r]? = some o)(hc:∀c T f,o≠ .cells c T f):w.heap[r]? = some o∧r<w.heap.size∧(n≤r∨A r):=by
 have hlt:=h.lt ho
 rcases Nat.lt_or_ge r n with hb | hb
 ·rcases h.old _ hb with g | ⟨_,c',T,f',g2,g3⟩ | g
  ·exact⟨by rw[← g.2];exact ho,hlt,.inr g.1⟩
  ·rw[ho] at g3;exact absurd (Option.some.inj g3) (hc _ _ _)
  ·rw[ho] at g;exact absurd (Option.some.inj g) (hc _ _ _)
 ·exact⟨by rw[← h.new _ hb];exact ho,hlt,.inl hb⟩
theorem fX.fP{n:Nat}{A B:Nat→Prop}{w₀ w:World}(h:fX n A B w₀ w){r:Nat}(hr:n≤r∨A r)(H₀ H:Array Obj)(hz₀:H₀.size=w₀.heap.size)(hz:H.size=w.heap.size)(ho₀:∀b,b≠r→H₀[b]? = w₀.heap[b]?)(ho:∀b,b≠r→H[b]? = w.heap[b]?)
  (he:H₀[r]? = H[r]?) (hp:∀o,H₀[r]? = some o→jG o=true):fX n A B {w₀ with heap:=H₀} {w with heap:=H}:=by
 refine⟨by simp[hz₀,hz,h.size],by simp[hz,h.le],fun b hb=>?_,fun b hb=>?_,fun b o hbo=>?_,h.tape,h.drawn,h.os⟩
 ·by_cases e:b=r
  ·subst e;exact he
  ·show H₀[b]? = H[b]?
   rw[ho₀ b e,ho b e];exact h.new b hb
 ·by_cases e:b=r
  ·subst e
   exact .inl ⟨hr.resolve_left (by omega),he⟩
  ·show _∧H₀[b]? = H[b]?∨_∧(∃c T f,H[b]? = _∧H₀[b]? = _)∨H₀[b]? = _
   rw[ho₀ b e,ho b e];exact h.old b hb
 ·by_cases e:b=r
  ·subst e;exact hp o hbo
  ·exact h.plain b o (by rw[← ho₀ b e];exact hbo)
theorem Tm.local{P:Program}{α:Type}{n:Nat}{A B:Nat→Prop}{s:Sem α}:∀{Φ:α→Prop} {w₀ w:World} {a:α} {w₀':World},Tm P s Φ→fX n A B w₀ w→s.run P w₀= .ok a w₀'→
  ∃w',s.run P w= .ok a w'∧fX n A B w₀' w'∧Φ a∧w.heap.size≤w'.heap.size∧∀es,∀e∈s.events P w es,e∈es∨jw n A B w'.heap.size e:=by
 induction s with
 | pure a=>
  intro Φ w₀ w b w₀' hT hP hr
  simp only[Sem.run,Result.ok.injEq] at hr
  obtain⟨rfl,rfl⟩:=hr
  exact⟨w,rfl,hP,hT,Nat.le_refl _,fun es e he=> .inl he⟩
 | load m a k ih=>
  intro Φ w₀ w b w₀' hT hP hr
  simp only[Sem.run] at hr
  cases hc:w₀.cell? a with
  | none=>
   obtain⟨e,he⟩:=hP.far P a (m== .atomic)
   rw[hc,he] at hr;cases hr
  | some v=>
   rw[hc] at hr
   obtain⟨h1,h2,h3⟩:=hP.cell hc
   obtain⟨w',g1,g2,g3,g4,g5⟩:=ih v (hT.2 v) hP hr
   refine⟨w',by simp only[Sem.run,h1];exact g1,g2,g3,g4,fun es e he=>?_⟩
   have he':e∈(k v).events P w (es.push ⟨.cell a,false,m== .atomic⟩):=by
    unfold Sem.events at he⊢
    simp only[Sem.runT,h1] at he;exact he
   rcases g5 _ e he' with g | g
   ·rcases Array.mem_push.1 g with g | rfl
    ·exact .inl g
    ·refine .inr ⟨by omega,by simp[hT.1],?_⟩
     rcases h3 with⟨h | h,_⟩ | ⟨h,_⟩
     ·exact .inl h
     ·exact .inr (.inl h)
     ·exact .inr (.inr ⟨h,rfl⟩)
   ·exact .inr g
 | store m a v k ih=>
  intro Φ w₀ w b w₀' hT hP hr
  have hv:v.oneCell'=true:=by
   cases v<;> first | rfl | (simp[Sem.run] at hr)
  have hrun:∀u:World,(Sem.store m a v k).run P u=match u.cell? a with
    | some _=>if u.frozen? a then .halt (.unsupported (.unsafePointer "a write to bytes that a string shares")) u else k.run P (u.setCell a v)
    | none=>match u.farStore P a v (m== .atomic) with
     | .ok (u,_)=>k.run P u
     | .error h=> .halt h u:=by
   intro u;cases v<;> first | rfl | (simp[Value.oneCell'] at hv)
  have hevs:∀(u:World) es,u.cell? a≠none→u.frozen? a=false→(Sem.store m a v k).events P u es=k.events P (u.setCell a v) (es.push ⟨.cell a,true,m== .atomic⟩):=by
   intro u es h1 h2
   cases hc:u.cell? a with
   | none=>exact absurd hc h1
   | some x=>cases v<;> first | (unfold Sem.events;simp only[Sem.runT,hc,h2];rfl) | (simp[Value.oneCell'] at hv)
  rw[hrun] at hr
  cases hc:w₀.cell? a with
  | none=>
   obtain⟨e,he⟩:=hP.VO P a v (m== .atomic)
   rw[hc,he] at hr;cases hr
  | some x=>
   rw[hc] at hr
   simp only at hr
   split at hr
   ·cases hr
   ·rename_i hfz
    obtain⟨h1,h2,h3⟩:=hP.cell hc
    have h4:(n≤a.block∨A a.block)∧w₀.heap[a.block]? = w.heap[a.block]? :=h3.resolve_right fun h=>hfz h.2
    have hfz':w.frozen? a=false:=by
     have:w.frozen? a=w₀.frozen? a:=by unfold World.frozen?;rw[h4.2]
     rw[this];simpa using hfz
    have hmod:∀(H:Array Obj) (f:Obj→Obj) (b:Nat),b≠a.block→(H.modify a.block f)[b]? = H[b]? :=fun H f b hb=>by
     rw[Array.getElem?_modify,if_neg (Ne.symm hb)]
    have hP':fX n A B (w₀.setCell a v) (w.setCell a v):=by
     refine hP.fP h4.1 _ _ (by simp) (by simp) (fun b hb=>hmod _ _ b hb) (fun b hb=>hmod _ _ b hb) ?_ ?_
     ·rw[Array.getElem?_modify,Array.getElem?_modify,if_pos rfl,if_pos rfl,h4.2]
     ·intro o ho
      rw[Array.getElem?_modify,if_pos rfl] at ho
      obtain⟨o',g1,g2⟩:=Option.map_eq_some_iff.1 ho
      have:=hP.plain _ _ g1
      subst g2
      cases o'<;> first | exact this | rfl
    obtain⟨w',g1,g2,g3,g4,g5⟩:=ih hT.2 hP' hr
    have hsz:(w.setCell a v).heap.size=w.heap.size:=by simp[World.setCell]
    refine⟨w',by rw[hrun,h1,hfz'];exact g1,g2,g3,by rw[← hsz];exact g4,fun es e he=>?_⟩
    rw[hevs w es (by rw[h1];simp) hfz'] at he
    rcases g5 _ e he with g | g
    ·rcases Array.mem_push.1 g with g | rfl
     ·exact .inl g
     ·refine .inr ⟨by omega,by simp[hT.1],?_⟩
      rcases h4.1 with h | h
      ·exact .inl h
      ·exact .inr (.inl h)
    ·exact .inr g
 | new o k ih=>
  intro Φ w₀ w b w₀' hT hP hr
  simp only[Sem.run] at hr
  rw[hP.size] at hr
  have hP':fX n A B {w₀ with heap:=w₀.heap.push o} {w with heap:=w.heap.push o}:=by
   have hge:∀b,b<n→b<w₀.heap.size:=fun b hb=>by rw[hP.size];have:=hP.le;omega
   refine⟨by simp[hP.size],by have:=hP.le;simp;omega,fun b hb=>?_,fun b hb=>?_,fun b o' hbo=>?_,hP.tape,hP.drawn,hP.os⟩
   ·show(w₀.heap.push o)[b]? = (w.heap.push o)[b]?
    rw[Array.getElem?_push,Array.getElem?_push,hP.size]
    split
    ·rfl
    ·exact hP.new b hb
   ·show _∧(w₀.heap.push o)[b]? = (w.heap.push o)[b]?∨_∧(∃c T f,(w.heap.push o)[b]? = _∧(w₀.heap.push o)[b]? = _)∨(w₀.heap.push o)[b]? = _
    have:=hge b hb
    rw[Array.getElem?_push,Array.getElem?_push,if_neg (by omega),if_neg (by rw[← hP.size];omega)]
    exact hP.old b hb
   ·have hbo:(w₀.heap.push o)[b]? = some o':=hbo
    rw[Array.getElem?_push] at hbo
    split at hbo
    ·simp only[Option.some.injEq] at hbo;subst hbo;exact hT.1
    ·exact hP.plain b o' hbo
  obtain⟨w',g1,g2,g3,g4,g5⟩:=ih _ (hT.2 _) hP' hr
  refine⟨w',g1,g2,g3,?_,fun es e he=>g5 es e he⟩
  have:w.heap.size+1≤w'.heap.size:=by simpa using g4
  omega
 | shape r k ih=>intro Φ w₀ w b w₀' hT hP hr;exact absurd hr (da.pE (hT _))
 | freeze a m k ih=>intro Φ w₀ w b w₀' hT hP hr;exact absurd hr (da.pE hT)
 | frozen a k ih=>intro Φ w₀ w b w₀' hT hP hr;exact absurd hr (da.pE (hT _))
 | getObj r k ih=>
  intro Φ w₀ w b w₀' hT hP hr
  simp only[Sem.run] at hr
  split at hr
  ·cases hr
  ·rename_i o hnc ho
   obtain⟨h1,h2,h3⟩:=hP.Ml ho (fun c T f e=>hnc c T f e)
   obtain⟨w',g1,g2,g3,g4,g5⟩:=ih o (hT o) hP hr
   have hch:o.isChan=false:=by
    have:=hP.plain _ _ ho
    cases o<;> first | rfl | (simp[jG] at this)
   refine⟨w',?_,g2,g3,g4,fun es e he=>?_⟩
   ·simp only[Sem.run,h1]
    cases o<;> first | exact g1 | exact(hnc _ _ _ rfl).elim
   ·have he':e∈(k o).events P w (es.push ⟨.obj r,false,o.isChan⟩):=by
     unfold Sem.events at he⊢
     simp only[Sem.runT,h1] at he
     cases o<;> first | exact he | exact(hnc _ _ _ rfl).elim
    rcases g5 _ e he' with g | g
    ·rcases Array.mem_push.1 g with g | rfl
     ·exact .inl g
     ·exact .inr ⟨by omega,hch,h3⟩
    ·exact .inr g
  ·cases hr
 | setObj r o k ih=>
  intro Φ w₀ w b w₀' hT hP hr
  simp only[Sem.run] at hr
  split at hr
  ·cases hr
  ·rename_i o1 hnc ho
   obtain⟨h1,h2,h3⟩:=hP.Ml ho (fun c T f e=>hnc c T f e)
   have hlt₀:=(Array.getElem?_eq_some_iff.1 ho).1
   have hP':fX n A B {w₀ with heap:=w₀.heap.setIfInBounds r o} {w with heap:=w.heap.setIfInBounds r o}:=by
    refine hP.fP h3 _ _ (by simp) (by simp) (fun b hb=>Array.getElem?_setIfInBounds_ne (Ne.symm hb)) (fun b hb=>Array.getElem?_setIfInBounds_ne (Ne.symm hb)) ?_ ?_
    ·rw[Array.getElem?_setIfInBounds_self_of_lt hlt₀,Array.getElem?_setIfInBounds_self_of_lt h2]
    ·intro o' ho'
     rw[Array.getElem?_setIfInBounds_self_of_lt hlt₀] at ho'
     simp only[Option.some.injEq] at ho';subst ho';exact hT.1
   obtain⟨w',g1,g2,g3,g4,g5⟩:=ih hT.2 hP' hr
   have hch:o.isChan=false:=by
    have:=hT.1
    cases o<;> first | rfl | (simp[jG] at this)
   have hsz:w.heap.size≤w'.heap.size:=by simpa using g4
   refine⟨w',?_,g2,g3,hsz,fun es e he=>?_⟩
   ·simp only[Sem.run,h1]
    cases o1<;> first | exact g1 | exact(hnc _ _ _ rfl).elim
   ·have he':e∈k.events P {w with heap:=w.heap.setIfInBounds r o} (es.push ⟨.obj r,true,o.isChan⟩):=by
     unfold Sem.events at he⊢
     simp only[Sem.runT,h1] at he
     cases o1<;> first | exact he | exact(hnc _ _ _ rfl).elim
    rcases g5 _ e he' with g | g
    ·rcases Array.mem_push.1 g with g | rfl
     ·exact .inl g
     ·exact .inr ⟨by omega,hch,h3⟩
    ·exact .inr g
  ·cases hr
 | choose q k ih=>
  intro Φ w₀ w b w₀' hT hP hr
  simp only[Sem.run] at hr
  split at hr
  ·rename_i hf
   obtain⟨w',g1,g2,g3,g4,g5⟩:=ih _ (hT _) hP hr
   refine⟨w',by simp only[Sem.run,hf,if_true];exact g1,g2,g3,g4,fun es e he=>g5 es e ?_⟩
   unfold Sem.events at he⊢
   simp only[Sem.runT,hf,if_true] at he;exact he
  ·rename_i hf
   have hq:w₀.tape w₀.drawn q=w.tape w.drawn q:=by rw[hP.tape,hP.drawn]
   rw[hq] at hr
   obtain⟨w',g1,g2,g3,g4,g5⟩:=ih _ (hT _) (w₀:={w₀ with drawn:=w₀.drawn+1}) (w:={w with drawn:=w.drawn+1}) ⟨hP.size,hP.le,hP.new,hP.old,hP.plain,hP.tape,by show w₀.drawn+1=w.drawn+1;rw[hP.drawn],hP.os⟩ hr
   refine⟨w',by simp only[Sem.run,hf];exact g1,g2,g3,g4,fun es e he=>g5 es e ?_⟩
   unfold Sem.events at he⊢
   simp only[Sem.runT,hf] at he;exact he
 | sys c k ih=>intro Φ w₀ w b w₀' hT hP hr;exact absurd hr (da.pE (hT _))
 | program k ih=>
  intro Φ w₀ w b w₀' hT hP hr
  obtain⟨w',g1,g2,g3,g4,g5⟩:=ih P hT hP hr
  exact⟨w',g1,g2,g3,g4,fun es e he=>g5 es e he⟩
 | mark m k ih=>
  intro Φ w₀ w b w₀' hT hP hr
  rcases hT with⟨hm,hT⟩ | hD
  ·obtain⟨w',g1,g2,g3,g4,g5⟩:=ih hT hP hr
   refine⟨w',g1,g2,g3,g4,fun es e he=>?_⟩
   rcases g5 (es.push ⟨.mark m,false,true⟩) e he with g | g
   ·rcases Array.mem_push.1 g with g | rfl
    ·exact .inl g
    ·exact .inr hm
   ·exact .inr g
  ·exact absurd hr (da.pE hD)
 | halt h=>intro Φ w₀ w b w₀' hT hP hr;cases hr
end Go.Mu
namespace Go.Mu
open Go
section
variable {P:Program}{α β:Type}{Φ:α→Prop}
theorem bD{a:α}(h:Φ a):Tm P (Pure.pure a:Sem α) Φ:=h
theorem rU{s:String}:Tm P (stuck s:Sem α) Φ:=trivial
theorem nT{u:Unsupported}:Tm P (unsupported u:Sem α) Φ:=trivial
theorem dp{Φ:Program→Prop}(h:Φ P):Tm P program Φ:=h
theorem BI{a:Addr}{Φ:Value→Prop}(h:∀v,Φ v):Tm P (load a) Φ:=⟨rfl,h⟩
theorem LF{a:Addr}{v:Value}{Φ:Unit→Prop}(h:Φ ()):Tm P (store a v) Φ:=⟨rfl,h⟩
theorem pH{o:Obj}{Φ:Nat→Prop}(ho:jG o=true)(h:∀r,Φ r):Tm P (newObj o) Φ:=⟨ho,h⟩
theorem fh{r:Nat}{Φ:Obj→Prop}(h:∀o,Φ o):Tm P (getObj r) Φ:=h
theorem pr{r:Nat}{o:Obj}{Φ:Unit→Prop}(ho:jG o=true)(h:Φ ()):Tm P (setObj r o) Φ:=⟨ho,h⟩
theorem gG{q:Question}{Φ:Nat→Prop}(h:∀r,Φ r):Tm P (choose q) Φ:=h
theorem tO{b:Nat}{Φ:Unit→Prop}(h:Φ ()):Tm P (askRoom b) Φ:=by
 unfold askRoom;split
 ·exact .inl ⟨rfl,h⟩
 ·exact h
theorem zJ{β:Type}{x:Sem α}{f:α→β}{Φ:β→Prop}(h:Tm P x fun a=>Φ (f a)):Tm P (Functor.map f x) Φ:=by
 show Tm P (x.bind fun a=> .pure (f a)) Φ
 exact ab (x:=x) (f:=fun a=>Sem.pure (f a)) h
theorem fA{t:TypeId}{Φ:TypeInfo→Prop}(h:∀i,Φ i):Tm P (typeInfo t) Φ:=by
 unfold typeInfo;refine ab (dp ?_);split
 ·exact h _
 ·trivial
theorem aS{t:TypeId}{Φ:TypeDesc→Prop}(h:∀i,Φ i):Tm P (underlying t) Φ:=by
 unfold underlying;refine ab (dp ?_);split
 ·exact h _
 ·trivial
theorem cF{t:TypeId}{Φ:TypeDesc→Prop}(h:∀i,P.underlying t=some i→Φ i):Tm P (underlying t) Φ:=by
 unfold underlying;refine ab (dp ?_);split
 ·rename_i d hd;exact h _ hd
 ·trivial
theorem ey{t:TypeId}{Φ:Value→Prop}(h:∀i,Φ i):Tm P (zeroValue t) Φ:=by
 unfold zeroValue;refine ab (fA fun i=>?_);split
 ·exact h _
 ·trivial
theorem cr{t:TypeId}{Φ:Nat→Prop}(h:∀i,Φ i):Tm P (sizeOf t) Φ:=by
 unfold sizeOf;exact ab (fA fun i=>h _)
theorem sn{t:TypeId}{Φ:Bool→Prop}(h:∀i,Φ i):Tm P (isAgg t) Φ:=by
 unfold isAgg;refine ab (aS fun i=>?_)
 split<;> exact h _
theorem Gw{t:TypeId}{Φ:TypeId→Prop}(h:∀i,Φ i):Tm P (elemOf t) Φ:=by
 unfold elemOf;refine ab (aS fun i=>?_)
 split
 ·exact h _
 ·trivial
theorem lS{a:Addr}{Φ:Array Value→Prop}(h:∀i,Φ i):∀(n i:Nat) (acc:Array Value),Tm P (loadCellsFrom a i n acc) Φ
 | 0,i,acc=>h _
 | n+1,i,acc=>by unfold loadCellsFrom;exact ab (BI fun v=>lS h n _ _)
theorem lF{a:Addr}{n:Nat}{Φ:Array Value→Prop}(h:∀i,Φ i):Tm P (loadCells a n) Φ:=lS h _ _ _
theorem iz{a:Addr}{Φ:Unit→Prop}(h:Φ ()):∀(vs:List Value) (i:Nat),Tm P (storeCells a vs i) Φ
 | [],i=>h
 | v::vs,i=>by unfold storeCells;exact ab (LF (iz h vs _))
theorem ue{t:TypeId}{a:Addr}{Φ:Value→Prop}(h:∀i,Φ i):Tm P (loadVar t a) Φ:=by
 unfold loadVar;refine ab (sn fun i=>?_);split
 ·exact ab (cr fun n=>ab (lF fun _=>h _))
 ·exact BI h
theorem AA{t:TypeId}{a:Addr}{v:Value}{Φ:Unit→Prop}(h:Φ ()):Tm P (storeVar t a v) Φ:=by
 unfold storeVar;refine ab (cr fun n=>?_);split
 ·exact ab rU
 ·exact iz h _ _
theorem iT{t:TypeId}{cs:Array Value}{Φ:Addr→Prop}(h:∀i,Φ i):Tm P (newRow t cs) Φ:=by
 unfold newRow;exact ab (pH rfl fun _=>h _)
theorem pV{t:TypeId}{v:Value}{Φ:Addr→Prop}(h:∀i,Φ i):Tm P (newVar t v) Φ:=iT h
theorem iX{t:TypeId}{cs:Array Value}{off:Nat}{Φ:Value→Prop}(h:∀v,Φ v):Tm P (part t cs off) Φ:=by
 unfold part;refine ab (sn fun i=>?_);split
 ·exact ab (cr fun n=>h _)
 ·split
  ·exact h _
  ·trivial
theorem cd{e:RuntimeError}:Tm P (runtimePanic e:Sem α) Φ:=by
 unfold runtimePanic;refine ab (dp ?_)
 cases e<;> first
  | trivial
  | exact ab (Gw fun _=>ab (pV fun _=>trivial))
theorem fF{k:IntKind}{x y:Int}{c:BoundsCode}:Tm P (boundsPanic k x y c:Sem α) Φ:=by
 unfold boundsPanic;dsimp only
 split
 ·exact ab (zJ (gG fun _=>cd))
 ·exact ab (bD cd)
theorem kO{v:Value}{Φ:IntKind×Int→Prop}(h:∀i,Φ i):Tm P (asIntOf v) Φ:=by
 unfold asIntOf;split<;> first | exact h _ | trivial
theorem yv{v:Value}{Φ:Int→Prop}(h:∀i,Φ i):Tm P (asInt v) Φ:=by
 unfold asInt;exact ab (kO fun _=>h _)
theorem qf{v:Value}{Φ:Bool→Prop}(h:∀i,Φ i):Tm P (asBool v) Φ:=by
 unfold asBool;split<;> first | exact h _ | trivial
theorem wj{v:Value}{Φ:Addr→Prop}(h:∀i,Φ i):Tm P (asAddr v) Φ:=by
 unfold asAddr;split<;> first | exact h _ | trivial | exact cd
theorem ir{v:Value}{Φ:Addr→Prop}(h:∀i,Φ i):Tm P (Instr.sureAddr v) Φ:=by
 unfold Instr.sureAddr;split<;> first | exact h _ | trivial
theorem bQ{c:Prop}[Decidable c]{x y:Sem α}(h1:Tm P x Φ)(h2:Tm P y Φ):Tm P (if c then x else y) Φ:=by split<;> assumption
end
variable {P:Program}
abbrev Any{α:Type}:α→Prop:=fun _=>True
theorem Hk{t:TypeId}{v:Value}:Tm P (Instr.loadAt t v) Any:=by
 unfold Instr.loadAt;exact ab (ir fun _=>ue fun _=>trivial)
theorem Ej{t:TypeId}{v x:Value}:Tm P (Instr.storeAt t v x) Any:=by
 unfold Instr.storeAt;exact ab (ir fun _=>AA trivial)
theorem yQ{t:TypeId}:Tm P (Instr.alloc t true (.tuple #[])) Any:=by
 unfold Instr.alloc;exact ab (ey fun _=>ab (pV fun _=>trivial))
theorem R0{t:TypeId}{v:Value}:Tm P (Instr.box t v) Any:=by
 unfold Instr.box;exact ab (pV fun _=>trivial)
theorem yF{v:Value}{Φ:Nat→Prop}(h:∀n,Φ n):Tm P (Builtin.lenOf v) Φ:=by
 unfold Builtin.lenOf;split<;> first | exact h _ | trivial
theorem iA{size n:Nat}{v:Value}{Φ:Array Value→Prop}(h:∀n,Φ n):Tm P (Builtin.firstCells size n v) Φ:=by
 unfold Builtin.firstCells;split<;> first | exact h _ | trivial | exact lF h
theorem PR{ats:Array TypeId}{ty:TypeId}{args:Array Value}:Tm P (Builtin.copy_ ats ty args) Any:=by
 unfold Builtin.copy_
 dsimp only
 split
 ·refine ab (aS fun d=>?_)
  split
  ·split
   ·refine ab (yF fun n=>ab (cr fun m=>ab (iA fun cs=>?_)))
    split
    ·exact ab (iz trivial _ _)
    ·trivial
   ·trivial
  ·trivial
 ·trivial
theorem Eo{t:TypeId}:Tm P (Instr.makeMap t none) Any:=by
 unfold Instr.makeMap;exact ab (pH rfl fun _=>trivial)
theorem Lp{v:Value}:Tm P (Instr.entry v) Any:=by
 unfold Instr.entry
 split
 ·refine ab (fh fun o=>?_)
  split
  ·split
   ·refine ab (fh fun o=>?_)
    split
    ·dsimp only
     split
     ·exact ab nT
     ·split<;> trivial
    ·trivial
   ·trivial
  ·trivial
 ·trivial
theorem JW{t:TypeId}{v:Value}:Tm P (Instr.range t v) Any:=by
 unfold Instr.range
 refine ab (aS fun d=>?_)
 dsimp only
 split
 ·exact ab (bD (ab (pH rfl fun _=>trivial)))
 ·exact ab (bD (ab (pH rfl fun _=>trivial)))
 ·refine ab (fh fun o=>?_)
  split
  ·exact ab (bD (ab (pH rfl fun _=>trivial)))
  ·trivial
 ·trivial
theorem B0{v:Value}{b:Bool}{ty:TypeId}:Tm P (Instr.next v b ty) Any:=by
 unfold Instr.next
 dsimp only
 split
 ·refine ab (fh fun o=>?_)
  split
  ·split
   ·exact ab (pr rfl trivial)
   ·trivial
  ·trivial
  ·refine ab (fh fun o=>?_)
   split
   ·split
    ·exact ab nT
    ·refine ab (gG fun n=>?_)
     split
     ·exact ab (pr rfl trivial)
     ·trivial
     ·trivial
   ·trivial
  ·trivial
 ·trivial
/-! ### what looks at values alone -/
theorem JZ{t:TypeId}{ps:Array (Nat×Value)}:Tm P (Instr.build t ps) Any:=by
 unfold Instr.build
 refine ab (ey fun z=>?_)
 dsimp only
 refine ab (aS fun d=>?_)
 split
 ·rename_i fs
  have hm:∀(l:List (Field)),Tm P (l.mapM fun f=>do pure (f.offset,← sizeOf f.type):Sem (List (Nat×Nat))) Any:=by
   intro l
   induction l with
   | nil=>trivial
   | cons f l ih=>
    rw[List.mapM_cons]
    exact ab (ab (cr fun n=>bD (ab (dz ih fun _ _=>trivial))))
  rw[Array.mapM_eq_mapM_toList]
  refine ab (zJ (dz (hm _) fun _ _=>?_))
  split<;> trivial
 ·refine ab (cr fun n=>?_)
  split<;> trivial
 ·trivial
theorem wT{t:TypeId}{n:Nat}{ps:Array (Nat×Value)}:Tm P (Instr.buildSlice t n ps) Any:=by
 unfold Instr.buildSlice
 refine ab (aS fun d=>?_)
 split
 ·refine ab (cr fun m=>?_)
  dsimp only
  split
  ·exact ab nT
  ·split
   ·refine ab (bD ?_)
    split
    ·exact ab (iT fun _=>trivial)
    ·trivial
   ·refine ab (ey fun z=>ab (bD ?_))
    split
    ·exact ab (iT fun _=>trivial)
    ·trivial
 ·trivial
theorem Dq{t:TypeId}{Φ:Nat→Prop}(h:∀i,P.info? t=some i→Φ i.size):Tm P (sizeOf t) Φ:=by
 unfold sizeOf typeInfo
 refine ab (ab (dp ?_))
 split
 ·rename_i i hi;exact h i hi
 ·trivial
theorem xd{t:TypeId}{n:Nat}{w:World}(hn:(sizeOf t).run P w= .ok n w){Φ:Nat→Prop}(h:Φ n):Tm P (sizeOf t) Φ:=by
 refine Dq fun i hi=>?_
 unfold sizeOf typeInfo at hn
 simp[program,Sem.run,hi] at hn
 rw[hn];exact h
theorem Dd{t:TypeId}{v:Value}{f:Nat}(hf:∀fs g,P.underlying t=some (.struct fs)→fs[f]? = some g→∃n w,(sizeOf g.type).run P w= .ok n w∧n≠0):Tm P (Instr.fieldAt t v f) Any:=by
 unfold Instr.fieldAt
 refine ab (cF fun d hd=>?_)
 split
 ·split
  ·rename_i fs _ g hg
   obtain⟨n,w,h1,h2⟩:=hf fs g hd hg
   refine ab (ir fun a=>ab ?_)
   unfold fieldPlace
   refine ab (xd h1 ?_)
   rw[if_neg h2];trivial
  ·trivial
 ·trivial
theorem KI{t:TypeId}{x i:Value}:Tm P (Instr.index t x i) Any:=by
 unfold Instr.index
 refine ab (kO fun p=>?_)
 dsimp only
 refine ab (aS fun d=>?_)
 split
 ·split
  ·exact ab (cr fun n=>iX fun _=>trivial)
  ·exact fF
 ·split
  ·trivial
  ·exact fF
 ·trivial
theorem EF{t:TypeId}{x i:Value}:Tm P (Instr.indexAt t x i) Any:=by
 unfold Instr.indexAt
 refine ab (kO fun p=>?_)
 dsimp only
 refine ab (aS fun d=>?_)
 have key:∀(q:Option Addr×Nat×TypeId),Tm P (do
   let __do_lift ← underlying t
   match q.1 with
   | some a=>
    if 0≤p.2∧p.2<(q.2.1:Int) then do
     let __do_lift ← sizeOf q.2.2
     pure (Value.pointer (some (a.add (p.2.toNat*__do_lift))))
    else
     if(decide (q.2.1≤1)&&match __do_lift with | TypeDesc.array len elem=>true | x=>false)=true then
      unsupported (Unsupported.noEntry "op/indexAddr.an index out of range at an array of length 0 or 1 (ledger 616)")
     else boundsPanic p.1 p.2 (q.2.1:Int) BoundsCode.index
   | none=>boundsPanic p.1 p.2 0 BoundsCode.index:Sem Value) Any:=by
  intro q
  refine ab (aS fun d=>?_)
  cases q.1 with
  | none=>exact fF
  | some a=>exact bQ (ab (cr fun n=>trivial)) (bQ trivial fF)
 split
 ·exact ab (ir fun a=>ab (bD (key (some a,_,_))))
 ·exact ab (bD (key (_,_,_)))
 ·trivial
theorem Ki{t:TypeId}{x:Value}{f:Nat}:Tm P (Instr.field t x f) Any:=by
 unfold Instr.field
 refine ab (aS fun d=>?_)
 split
 ·split
  ·refine ab ?_
   unfold asAgg
   split
   ·exact iX fun _=>trivial
   ·trivial
  ·trivial
 ·trivial
theorem C2{x:Value}{i:Nat}:Tm P (Instr.extract x i) Any:=by
 unfold Instr.extract
 split
 ·split<;> trivial
 ·trivial
theorem su{t:TypeId}{x:Value}:Tm P (Instr.makeInterface t x) Any:=by
 unfold Instr.makeInterface
 refine ab (aS fun d=>?_)
 split<;> trivial
theorem xa{x:Value}{t u:TypeId}{ok:Bool}:Tm P (Instr.typeAssert x t u ok) Any:=by
 unfold Instr.typeAssert
 dsimp only
 have hf:∀(a b:Option TypeId) (m:String),Tm P (if ok=true then do
   let __do_lift ← zeroValue u
   pure (Value.tuple #[__do_lift,Value.bool false])
  else runtimePanic (RuntimeError.typeAssertion a b u m):Sem Value) Any:=fun a b m=>bQ (ab (ey fun _=>trivial)) cd
 refine ab (aS fun d=>?_)
 split
 ·exact hf _ _ _
 ·refine ab (fA fun i=>?_)
  split
  ·trivial
  ·exact hf _ _ _
 ·exact hf _ _ _
 ·exact bQ trivial (hf _ _ _)
 ·trivial
theorem cP{x:Value}{y:Nat}{c:BoundsCode}{Φ:Nat→Prop}(h:∀n,Φ n):Tm P (Instr.sliceBound x y c) Φ:=by
 unfold Instr.sliceBound
 refine ab (kO fun p=>?_)
 dsimp only
 exact bQ (h _) fF
theorem ij{b:Bool}{l c:Nat}{lo hi mx:Option Value}{Φ:Nat×Nat×Nat→Prop}(h:∀n,Φ n):Tm P (Instr.sliceBounds b l c lo hi mx) Φ:=by
 unfold Instr.sliceBounds
 dsimp only
 cases mx with
 | none=>
  simp only
  cases hi with
  | none=>cases lo with
   | none=>exact ab (bD (ab (bD (ab (bD (h _))))))
   | some z=>exact ab (bD (ab (bD (ab (cP fun _=>h _)))))
  | some y=>cases lo with
   | none=>exact ab (bD (ab (cP fun _=>ab (bD (h _)))))
   | some z=>exact ab (bD (ab (cP fun _=>ab (cP fun _=>h _))))
 | some x=>
  simp only
  cases hi with
  | none=>exact ab (cP fun _=>ab trivial)
  | some y=>cases lo with
   | none=>exact ab (cP fun _=>ab (cP fun _=>ab (bD (h _))))
   | some z=>exact ab (cP fun _=>ab (cP fun _=>ab (cP fun _=>h _)))
theorem Jt{t:TypeId}{x:Value}{lo hi mx:Option Value}:Tm P (Instr.slice t x lo hi mx) Any:=by
 unfold Instr.slice
 refine ab (aS fun d=>?_)
 split
 ·dsimp only
  exact bQ (ab rU) (ab (ij fun _=>trivial))
 ·exact ab (ij fun _=>ab (cr fun _=>trivial))
 ·refine ab (wj fun a=>ab (aS fun d=>?_))
  split
  ·exact ab (ij fun _=>ab (cr fun _=>trivial))
  ·trivial
 ·trivial
theorem Ed{t:TypeId}{x:Value}{lo hi mx:Option Value}:Tm P (Instr.sliceAt t x lo hi mx) Any:=by
 unfold Instr.sliceAt
 refine ab (aS fun d=>?_)
 split
 ·exact ab (ir fun a=>ab (ij fun _=>ab (cr fun _=>trivial)))
 ·exact Jt
theorem xN{t:TypeId}{l c:Value}:Tm P (Instr.makeSlice t l c) Any:=by
 unfold Instr.makeSlice
 refine ab (aS fun d=>?_)
 split
 ·refine ab (yv fun l=>ab (yv fun c=>ab (fA fun i=>?_)))
  dsimp only
  have key:∀(r:Unit) (e:TypeId) (l c:Int) (i:TypeInfo),Tm P (do
    askRoom ((IntKind.i64.wrap c).toNat*i.bytes)
    let __do_lift ← sizeOf e
    let __do_jp:Array Value→Sem Value:=fun zero=>do
     let a ← newRow e ((Array.range ((IntKind.i64.wrap c).toNat*__do_lift)).map fun x=>zero[x%zero.size]!)
     pure (.slice (some a) (IntKind.i64.wrap l).toNat (IntKind.i64.wrap c).toNat)
    if(IntKind.i64.wrap c).toNat*__do_lift=0 then do
     let y ← pure #[]
     __do_jp y
    else do
     let y ← zeroValue e
     let y ← pure y.cells
     __do_jp y:Sem Value) Any:=by
   intro r e l c i
   refine ab (tO (ab (cr fun n=>?_)))
   dsimp only
   exact bQ (ab (bD (ab (iT fun _=>trivial)))) (ab (ey fun z=>ab (bD (ab (iT fun _=>trivial)))))
  split
  ·split
   ·exact ab cd
   ·split
    ·exact ab cd
    ·exact ab (gG fun _=>ab cd)
  ·exact key () _ _ _ _
 ·trivial
theorem FY{ats:Array TypeId}{ty:TypeId}{args:Array Value}:Tm P (Builtin.len_ ats ty args) Any:=by
 unfold Builtin.len_
 split
 ·refine ab (aS fun d=>?_)
  split<;> first
   | trivial
   | (refine ab (fh fun o=>?_);split<;> trivial)
   | (refine ab (aS fun d=>?_);split<;> trivial)
 ·trivial
/-! ### values without addresses -/
inductive Flat:Value→Prop
 | bool (b:Bool):Flat (.bool b)
 | int (k:IntKind) (n:Int):Flat (.int k n)
 | str (s:ByteArray):Flat (.string s)
 | agg (cs:Array Value) (h:∀i (h:i<cs.size),Flat cs[i]):Flat (.agg cs)
theorem oa{t:TypeId}{cs:Array Value}{off:Nat}{Φ:Value→Prop}(hc:Flat (.agg cs))(h:∀v,Flat v→Φ v):Tm P (part t cs off) Φ:=by
 cases hc with
 | agg _ hc=>
  unfold part;refine ab (sn fun i=>?_);split
  ·refine ab (cr fun n=>h _ (.agg _ fun i hi=>?_))
   rw[Array.getElem_extract];exact hc _ _
  ·split
   ·rename_i v hv
    obtain⟨h1,rfl⟩:=Array.getElem?_eq_some_iff.1 hv
    exact h _ (hc _ h1)
   ·trivial
theorem rY{α β:Type}{f:α→β→Sem (ForInStep β)}{Φ:β→Prop}(h:∀b,Φ b)(hf:∀a b,Tm P (f a b) Any):∀(l:List α) (b:β),Tm P (forIn l b f) Φ
 | [],b=>by rw[List.forIn_nil];exact h b
 | a::l,b=>by
  rw[List.forIn_cons]
  refine ab (dz (hf a b) fun s _=>?_)
  cases s with
  | done b=>exact h b
  | yield b=>exact rY h hf l b
theorem ml{α β:Type}{f:α→β→Sem (ForInStep β)}{Φ:β→Prop}(h:∀b,Φ b)(hf:∀a b,Tm P (f a b) Any)(l:Array α)(b:β):Tm P (forIn l b f) Φ:=by
 rw[← Array.forIn_toList];exact rY h hf _ _
theorem pg{β:Type}{f:Nat→β→Sem (ForInStep β)}{Φ:β→Prop}(h:∀b,Φ b)(hf:∀a b,Tm P (f a b) Any)(n:Nat)(b:β):Tm P (forIn [0:n] b f) Φ:=by
 rw[Std.Legacy.Range.forIn_eq_forIn_range'];exact rY h hf _ _
theorem ou:∀(d:Nat) (t:TypeId) (x y:Value),Flat x→Tm P (Op.equalIn d t x y) Any
 | 0,_,_,_,_=>trivial
 | d+1,t,x,y,hx=>by
  unfold Op.equalIn
  refine ab (aS fun u=>?_)
  have hx':=hx
  cases hx<;> dsimp only<;> split<;> first
   | trivial
   | exact bQ trivial trivial
   | (exfalso;simp_all;done)
   | skip
  ·rename_i xs ys hxs
   have hxs:=(Value.agg.inj hxs).symm;subst hxs
   refine ab (dp ?_)
   refine bQ (ab nT) (ab (ml (fun b=>?_) (fun f b=>?_) _ _))
   ·cases b.1<;> trivial
   ·refine bQ (ab (oa hx' fun v hv=>ab (iX fun w=>ab (dz (ou d _ _ _ hv) fun b _=>?_)))) trivial
    exact bQ trivial trivial
  ·rename_i xs ys hxs
   have hxs:=(Value.agg.inj hxs).symm;subst hxs
   refine ab (cr fun n=>ab (pg (fun b=>?_) (fun f b=>?_) _ _))
   ·cases b.1<;> trivial
   ·refine ab (oa hx' fun v hv=>ab (iX fun w=>ab (dz (ou d _ _ _ hv) fun b _=>?_)))
    exact bQ trivial trivial
theorem yY{t:TypeId}{x y:Value}(h:Flat x):Tm P (Op.equal t x y) Any:=ou _ _ _ _ h
theorem km{e:Bool}:∀(n:Nat) (t:TypeId) (x:Value) {Φ:Unit→Prop},Flat x→Φ ()→Tm P (Instr.checkKey e n t x) Φ
 | 0,_,_,_,_,_=>trivial
 | n+1,t,x,Φ,hx,hΦ=>by
  unfold Instr.checkKey
  refine ab (aS fun u=>?_)
  have hx':=hx
  cases hx<;> dsimp only<;> split<;> first
   | trivial
   | exact hΦ
   | (exfalso;simp_all;done)
   | skip
  ·rename_i xs hxs
   have hxs:=(Value.agg.inj hxs).symm;subst hxs
   refine ab (pg (fun b=>hΦ) (fun f b=>?_) _ _)
   refine ab (cr fun m=>ab (oa hx' fun v hv=>ab (km n _ _ hv trivial)))
  ·rename_i xs hxs
   have hxs:=(Value.agg.inj hxs).symm;subst hxs
   refine ab (ml (fun b=>hΦ) (fun f b=>?_) _ _)
   exact bQ (ab (oa hx' fun v hv=>ab (km n _ _ hv trivial))) trivial
theorem oP{t:TypeId}{k:Value}{Φ:Option (Nat×Value)→Prop}(hk:Flat k)(h:∀r,Φ r):∀(es:List MapEntry) (i:Nat),Tm P (Instr.findAsking t k es i) Φ
 | [],i=>h _
 | e::es,i=>by
  unfold Instr.findAsking
  refine ab (dz (yY hk) fun b _=>?_)
  exact bQ (h _) (oP hk h es _)
theorem sW{t:TypeId}{k:Value}{es:List MapEntry}{Φ:Option (Nat×Value)→Prop}(hk:Flat k)(h:∀r,Φ r):Tm P (Instr.findKey t k es) Φ:=by
 unfold Instr.findKey
 refine ab (aS fun u=>?_)
 split
 ·exact h _
 ·exact oP hk h _ _
theorem Fu{t:TypeId}{m k:Value}{ok:Bool}(hk:Flat k):Tm P (Instr.lookup t m k ok) Any:=by
 unfold Instr.lookup
 refine ab (aS fun u=>?_)
 have tail:∀(key elem:TypeId) (es:Array MapEntry),Tm P (do
   Instr.checkKey es.isEmpty 10000 key k
   let __do_lift ← Instr.findKey key k es.toList
   let __do_jp:Value×Bool→Sem Value:=fun __x=>match __x with | (v,ok')=>pure (if ok=true then .tuple #[v,.bool ok'] else v)
   match __do_lift with
   | some (_,v)=>do
    let __x ← pure (v,true)
    __do_jp __x
   | none=>do
    let __do_lift ← zeroValue elem
    let __x ← pure (__do_lift,false)
    __do_jp __x:Sem Value) Any:=by
  intro key elem es
  refine ab (km _ _ _ hk (ab (sW hk fun r=>?_)))
  dsimp only
  split
  ·trivial
  ·exact ab (ey fun z=>trivial)
 split
 ·dsimp only
  split
  ·exact ab (bD (tail _ _ _))
  ·refine ab (fh fun o=>?_)
   split
   ·exact ab (bD (tail _ _ _))
   ·trivial
  ·trivial
 ·trivial
theorem yI{t:TypeId}{m k x:Value}(hk:Flat k):Tm P (Instr.mapUpdate t m k x) Any:=by
 unfold Instr.mapUpdate
 refine ab (aS fun u=>?_)
 split
 ·split
  ·exact cd
  ·refine ab (fh fun o=>?_)
   split
   ·refine ab (km _ _ _ hk (ab (sW hk fun r=>?_)))
    split
    ·refine ab ?_
     unfold Instr.keyThatStays
     refine bQ ?_ (ab (gG fun n=>?_))<;> exact⟨rfl,trivial⟩
    ·exact pr rfl trivial
   ·trivial
  ·trivial
 ·trivial
theorem AJ{α:Type}{size n m:Nat}{base:Option Addr}{x:Value}{f:Bool→Sem α}{Φ:α→Prop}(h:∀b,da P (f b))(hf:∀b,Tm P (f b) Φ):Tm P (Builtin.mayShare size n m base x >>= f) Φ:=by
 have hh:∀{β:Type} (a:Addr) (k:Nat) (g:Bool→Sem β) (Ψ:β→Prop),(∀b,da P (g b))→Tm P (Builtin.holdsCells a k >>= g) Ψ:=by
  intro β a k g Ψ hg
  unfold Builtin.holdsCells
  exact fun s=>mz _ _ hg
 unfold Builtin.mayShare
 cases base with
 | none=>
  cases x with
  | slice a l c=>cases a with
   | none=>exact hf _
   | some b=>exact fun s=>mz _ _ fun _=>h _
  | _=>exact hf _
 | some a=>exact fun s=>mz _ _ fun _=>h _
theorem Hl{ats:Array TypeId}{ty t0 t1 e e':TypeId}{s x:Value}(g0:ats[0]? = some t0)(g1:ats[1]? = some t1)(h0:P.underlying t0=some (.slice e))(h1:P.underlying t1=some (.slice e')):Tm P (Builtin.append_ ats ty #[s,x]) Any:=by
 unfold Builtin.append_
 simp only[g0,g1,List.getElem?_toArray,List.getElem?_cons_zero,List.getElem?_cons_succ]
 refine ab (cF fun d hd=>?_)
 rw[h0] at hd;cases hd
 simp only
 split
 ·refine ab (cr fun size=>ab (cF fun d hd=>?_))
  rw[h1] at hd;cases hd
  refine ab (bD ?_)
  simp only[Bool.false_eq_true,if_false,Bool.not_false,if_true,false_or]
  refine ab (yF fun n=>?_)
  refine bQ (ab (iA fun new=>?_)) ?_
  ·split
   ·exact ab (iz trivial _ _)
   ·trivial
  ·refine ab (fA fun i=>?_)
   refine bQ (ab cd) ?_
   refine ab (fA fun i=>?_)
   refine bQ ?_ ?_
   ·refine ab (AJ (fun b=>?_) (fun b=>?_))
    ·split
     ·exact mz _ _ fun _=>trivial
     ·trivial
    ·exact bQ (ab (.inl ⟨rfl,trivial⟩)) trivial
   ·exact ab (gG fun c=>ab (fA fun i=>ab (tO (ab (iA fun o=>ab (iA fun o2=>ab (ey fun z=>ab (iT fun a=>trivial))))))))
 ·trivial
theorem LM{x:Value}:Tm P (Conv.bytesToString x) Any:=by
 unfold Conv.bytesToString
 dsimp only
 split
 ·trivial
 ·refine ab (lF fun cs=>ab (ml (fun b=>trivial) (fun a b=>?_) _ _))
  split<;> trivial
 ·trivial
theorem qP{op:BinOp}{k:IntKind}{x y:Int}:Tm P (Op.intArith op k x y) Any:=by
 unfold Op.intArith;split<;> trivial
theorem PD{x y:Value}:Tm P (Builtin.max2 x y) Any:=by
 unfold Builtin.max2
 split
 ·trivial
 ·split
  ·exact ab (gG fun _=>trivial)
  ·trivial
  ·trivial
  ·trivial
 ·exact ab (bD (ab (qf fun b=>trivial)))
 all_goals trivial
theorem Oe{x y:Value}:Tm P (Builtin.min2 x y) Any:=by
 unfold Builtin.min2
 split
 ·trivial
 ·split
  ·exact ab (gG fun _=>trivial)
  ·trivial
  ·trivial
  ·trivial
 ·exact ab (bD (ab (qf fun b=>trivial)))
 all_goals trivial
theorem po{f:Value→Value→Sem Value}(h:∀x y,Tm P (f x y) Any):∀(l:List Value) (x:Value),Tm P (l.foldlM f x) Any
 | [],x=>trivial
 | y::l,x=>by rw[List.foldlM_cons];exact ab (dz (h _ _) fun z _=>po h l z)
theorem R9{ats:Array TypeId}{ty:TypeId}{args:Array Value}:Tm P (Builtin.max_ ats ty args) Any:=by
 unfold Builtin.max_;split
 ·trivial
 ·exact po (fun _ _=>PD) _ _
theorem R2{ats:Array TypeId}{ty:TypeId}{args:Array Value}:Tm P (Builtin.min_ ats ty args) Any:=by
 unfold Builtin.min_;split
 ·trivial
 ·exact po (fun _ _=>Oe) _ _
end Go.Mu
