/- The package-level variables that are laid: none in this seat. -/
import Derived.CallsIn
import Derived.RangeFuncIn
import Derived.Laws.Sem
import Derived.Laws.Entries
import Derived.Laws.StructEq
set_option linter.unusedSimpArgs false
set_option linter.unusedVariables false
namespace Go.Mu
open Go
def gx(_:Nat):Option (Array Value):=none
inductive Tok where
 | no
 | full
 | own (id:Nat)
 deriving DecidableEq
inductive AV where
 | bool (b:Bool)
 | int (k:IntKind) (n:Int)
 | str (s:ByteArray)
 | ptr (r off:Nat)
 | nilptr
 | eptr (cs:List AV) (off:Nat)
 | list (t:Tok) (sz:Nat) (xs:List AV)
 | arr (r off len:Nat)
 | vec (r len:Nat)
 | vptr (r m sz i off:Nat)
 | map (r:Nat)
 | nilmap
 | fn (f:Fn) (first cap:List AV)
 | yield (r:Nat)
 | nilfn
 | iface (t:TypeId) (v:AV)
 | niliface
 | agg (cs:List AV)
 | tup (vs:List AV)
 | chan (c:Option Nat)
 deriving Inhabited
def AV.cells:AV→List AV
 | .agg cs=>cs
 | v=>[v]
def AV.flat:AV→Bool
 | .tup _=>false
 | _=>true
structure Fr where
 kp:Nat→Bool
 tm:List (Nat×AV)
 sl:List (Nat×AV)
def ae:List (Nat×AV)→Nat→Option AV
 | [],_=>none
 | (d,v)::l,t=>if d=t then some v else ae l t
def ins:List (Nat×AV)→Nat→AV→List (Nat×AV)
 | [],d,v=>[(d,v)]
 | (e,u)::l,d,v=>if e=d then(d,v)::l else(e,u)::ins l d v
def Fr.get(fr:Fr)(t:Nat):Option AV:=if fr.kp t then ae fr.sl t else ae fr.tm t
def Fr.put(fr:Fr)(d:Nat)(v:AV):Fr:=if fr.kp d then⟨fr.kp,fr.tm,ins fr.sl d v⟩ else⟨fr.kp,(d,v)::fr.tm,fr.sl⟩
def Fr.eC(fr:Fr):Fr:=⟨fr.kp,[],fr.sl⟩
theorem iZ(l:List (Nat×AV))(d t:Nat)(v:AV):ae (ins l d v) t=if d=t then some v else ae l t:=by
 induction l with
 | nil=>simp[ins,ae]
 | cons p l ih=>
  obtain⟨e,u⟩:=p
  simp only[ins]
  by_cases h:e=d
  ·subst h
   rw[if_pos rfl];simp only[ae]
   by_cases h2:e=t
   ·simp[h2]
   ·simp[h2]
  ·rw[if_neg h];simp only[ae,ih]
   by_cases h2:e=t
   ·subst h2;simp[Ne.symm h]
   ·simp[h2]
theorem Fr.get_put(fr:Fr)(d t:Nat)(v:AV):(fr.put d v).get t=if d=t then some v else fr.get t:=by
 by_cases h:fr.kp d
 ·by_cases e:d=t
  ·subst e;simp[Fr.put,Fr.get,h,iZ]
  ·simp only[Fr.put,Fr.get,h,if_true,iZ,if_neg e]
 ·by_cases e:d=t
  ·subst e;simp[Fr.put,Fr.get,h,ae]
  ·simp only[Fr.put,Fr.get,h,if_false,Bool.false_eq_true]
   by_cases g:fr.kp t
   ·simp[g,e]
   ·simp[g,ae,e]
theorem Fr.J2{fr:Fr}{t:Nat}{v:AV}(h:fr.eC.get t=some v):fr.get t=some v:=by
 obtain⟨kp,tm,sl⟩:=fr
 have h':(if kp t=true then ae sl t else ae [] t)=some v:=h
 show(if kp t=true then ae sl t else ae tm t)=some v
 by_cases g:kp t=true
 ·rw[if_pos g] at h'⊢;exact h'
 ·rw[if_neg g] at h';cases h'
inductive aa where
 | cells (cs:List AV)
 | tail (n sz:Nat)
 | vec (sz:Nat) (xs:List AV)
 | map (es:List (AV×AV))
 | iter (m:Option Nat) (n:Nat) (seen:List Nat)
 | siter (s:ByteArray) (pos:Nat)
 | loop (st:LoopState) (pend:Option Code) (fn:FuncId) (params:Array Tmp) (assign body:Code) (N:Nat) (fr:Fr)
 | dead
 deriving Inhabited
structure Kr where
 φ:Nat→Nat
 tl:Nat→Nat→Option (Option Addr×Nat)
 S:Nat→Nat→Option Value
def rN(K:Kr)(n:Nat)(t:Tok)(len:Nat)(a:Option Addr)(cap:Nat):Prop:=
 match t with
 | .no=>True
 | .full=>cap=len
 | .own id=>id<n∧K.tl id len=some (a,cap)
inductive VR(K:Kr)(n:Nat):AV→Value→Prop
 | bool (b:Bool):VR K n (.bool b) (.bool b)
 | int (k:IntKind) (i:Int):VR K n (.int k i) (.int k i)
 | str (s:ByteArray):VR K n (.str s) (.string s)
 | ptr (r off:Nat) (h:r<n):VR K n (.ptr r off) (.pointer (some ⟨K.φ r,off,none⟩))
 | nilptr:VR K n .nilptr (.pointer none)
 | eptr (cs:List AV) (off b o:Nat) (f:Nat→Value) (hS:∀j,j<cs.length→K.S b (o+j)=some (f j))
   (h1:∀j,j<cs.length→(f j).oneCell'=true)
   (h:∀j (hj:j<cs.length),VR K n (cs[j]) (f j)):VR K n (.eptr cs off) (.pointer (some ⟨b,o+off,none⟩))
 | list (t:Tok) (sz:Nat) (xs:List AV) (a:Option Addr) (cap:Nat) (f:Nat→Nat→Value) (hl:xs.length≤cap) (ht:rN K n t xs.length a cap)
   (ha:xs≠[]→∃b o,a=some ⟨b,o,none⟩∧∀i j,i<xs.length→j<sz→K.S b (o+(i*sz+j))=some (f i j))
   (hs:∀i (hi:i<xs.length),(xs[i]).cells.length=sz)
   (h1:∀i j,i<xs.length→j<sz→(f i j).oneCell'=true)
   (h:∀i j (hi:i<xs.length) (hj:j<(xs[i]).cells.length),VR K n ((xs[i]).cells[j]) (f i j)):VR K n (.list t sz xs) (.slice a xs.length cap)
 | arr (r off len:Nat) (a:Option Addr) (cap:Nat) (h:r<n) (hl:len≤cap) (ha:len=0∨a=some ⟨K.φ r,off,none⟩):VR K n (.arr r off len) (.slice a len cap)
 | vec (r len:Nat) (a:Option Addr) (cap:Nat) (h:r<n) (hl:len≤cap) (ht:K.tl r len=some (a,cap)) (ha:len=0∨∃b o,a=some ⟨b,o,none⟩):VR K n (.vec r len) (.slice a len cap)
 | vptr (r m sz i off b o cap:Nat) (h:r<n) (ht:K.tl r m=some (some ⟨b,o,none⟩,cap)):VR K n (.vptr r m sz i off) (.pointer (some ⟨b,o+(i*sz+off),none⟩))
 | map (r:Nat) (h:r<n):VR K n (.map r) (.map (some (K.φ r)))
 | nilmap:VR K n .nilmap (.map none)
 | fn (f:Fn) (first cap:List AV) (first' cap':List Value) (h1:first.length=first'.length) (h2:cap.length=cap'.length)
   (g1:∀i (h:i<first.length) (h':i<first'.length),VR K n (first[i]) (first'[i]))
   (g2:∀i (h:i<cap.length) (h':i<cap'.length),VR K n (cap[i]) (cap'[i])):VR K n (.fn f first cap) (.func f first'.toArray cap'.toArray)
 | yield (r:Nat) (h:r<n):VR K n (.yield r) (.func (.yield (K.φ r)) #[] #[])
 | nilfn:VR K n .nilfn .nilFunc
 | iface (t:TypeId) (v:AV) (c:Value) (h:VR K n v c):VR K n (.iface t v) (.iface t c)
 | niliface:VR K n .niliface .nilIface
 | agg (cs:List AV) (cs':List Value) (hl:cs.length=cs'.length) (h1:∀c∈cs',c.oneCell'=true) (h:∀i (h:i<cs.length) (h':i<cs'.length),VR K n (cs[i]) (cs'[i])):VR K n (.agg cs) (.agg cs'.toArray)
 | tup (cs:List AV) (cs':List Value) (hl:cs.length=cs'.length) (h:∀i (h:i<cs.length) (h':i<cs'.length),VR K n (cs[i]) (cs'[i])):VR K n (.tup cs) (.tuple cs'.toArray)
 | chan (c:Option Nat):VR K n (.chan c) (.chan c)
def VRs(K:Kr)(n:Nat)(l:List AV)(l':List Value):Prop:=
 l.length=l'.length∧∀i (h:i<l.length) (h':i<l'.length),VR K n (l[i]) (l'[i])
structure Ext(n:Nat)(K K':Kr):Prop where
 φ:∀r,r<n→K'.φ r=K.φ r
 tl:∀r,r<n→∀m x,K.tl r m=some x→K'.tl r m=some x
 S:∀b o v,K.S b o=some v→K'.S b o=some v
theorem Ext.refl(n:Nat)(K:Kr):Ext n K K:=⟨fun _ _=>rfl,fun _ _ _ _ h=>h,fun _ _ _ h=>h⟩
theorem Ext.trans{n n':Nat}{K K' K'':Kr}(h:Ext n K K')(h':Ext n' K' K'')(hn:n≤n'):Ext n K K'':=
 ⟨fun r hr=>(h'.φ r (by omega)).trans (h.φ r hr),fun r hr m x hx=>h'.tl r (by omega) m x (h.tl r hr m x hx),fun b o v hv=>h'.S b o v (h.S b o v hv)⟩
theorem rN.mono{n n':Nat}{K K':Kr}{t:Tok}{len:Nat}{a:Option Addr}{cap:Nat}(h:rN K n t len a cap)(he:Ext n K K')(hn:n≤n'):rN K' n' t len a cap:=by
 cases t with
 | no=>trivial
 | full=>exact h
 | own id=>exact⟨by have:=h.1;omega,he.tl id h.1 _ _ h.2⟩
theorem VR.mono{n n':Nat}{K K':Kr}{v:AV}{c:Value}(h:VR K n v c)(he:Ext n K K')(hn:n≤n'):VR K' n' v c:=by
 induction h with
 | bool b=>exact .bool b
 | int k i=>exact .int k i
 | str s=>exact .str s
 | ptr r off h=>rw[← he.φ r h];exact .ptr r off (by omega)
 | nilptr=>exact .nilptr
 | eptr cs off b o f hS h1 _ ih=>exact .eptr cs off b o f (fun j hj=>he.S _ _ _ (hS j hj)) h1 ih
 | list t sz xs a cap f hl ht ha hs h1 _ ih=>
  exact .list t sz xs a cap f hl (ht.mono he hn) (fun hx=>by
   obtain⟨b,o,h1,h2⟩:=ha hx
   exact⟨b,o,h1,fun i j hi hj=>he.S _ _ _ (h2 i j hi hj)⟩) hs h1 ih
 | arr r off len a cap h hl ha=>exact .arr r off len a cap (by omega) hl (by rw[he.φ r h];exact ha)
 | vec r len a cap h hl ht ha=>exact .vec r len a cap (by omega) hl (he.tl r h _ _ ht) ha
 | vptr r m sz i off b o cap h ht=>exact .vptr r m sz i off b o cap (by omega) (he.tl r h _ _ ht)
 | map r h=>rw[← he.φ r h];exact .map r (by omega)
 | nilmap=>exact .nilmap
 | fn f first cap first' cap' h1 h2 _ _ i1 i2=>exact .fn f first cap first' cap' h1 h2 i1 i2
 | yield r h=>rw[← he.φ r h];exact .yield r (by omega)
 | nilfn=>exact .nilfn
 | iface t v c _ ih=>exact .iface t v c ih
 | niliface=>exact .niliface
 | agg cs cs' hl h1 _ ih=>exact .agg cs cs' hl h1 ih
 | tup cs cs' hl _ ih=>exact .tup cs cs' hl ih
 | chan c=>exact .chan c
theorem VRs.mono{n n':Nat}{K K':Kr}{l:List AV}{l':List Value}(h:VRs K n l l')(he:Ext n K K')(hn:n≤n'):VRs K' n' l l':=
 ⟨h.1,fun i h1 h2=>(h.2 i h1 h2).mono he hn⟩
def FR(K:Kr)(n N:Nat)(fr:Fr)(tmps:Array Value):Prop:=
 tmps.size=N∧∀t v,Fr.get fr t=some v→∃c,tmps[t]? = some c∧VR K n v c
theorem FR.mono{n n' N:Nat}{K K':Kr}{fr:Fr}{tmps:Array Value}(h:FR K n N fr tmps)(he:Ext n K K')(hn:n≤n'):FR K' n' N fr tmps:=
 ⟨h.1,fun t v hv=>let⟨c,h1,h2⟩:=h.2 t v hv;⟨c,h1,h2.mono he hn⟩⟩
theorem FR.put{n N:Nat}{K:Kr}{fr:Fr}{a:Act}{d:Nat}{v:AV}{c:Value}(h:FR K n N fr a.tmps)(hd:d<N)(hv:VR K n v c):FR K n N (fr.put d v) (a.put (some d) c).tmps:=by
 refine⟨by simp[Act.put,h.1],fun t u hu=>?_⟩
 rw[Fr.get_put] at hu
 by_cases e:d=t
 ·subst e
  simp at hu;subst hu
  exact⟨c,by simp[Act.put,h.1,hd],hv⟩
 ·rw[if_neg e] at hu
  obtain⟨c',h1,h2⟩:=h.2 t u hu
  exact⟨c',by simp[Act.put,Array.getElem?_setIfInBounds_ne e,h1],h2⟩
theorem FR.sub{n N:Nat}{K:Kr}{fr fr':Fr}{tmps:Array Value}(h:FR K n N fr tmps)(hs:∀t v,Fr.get fr' t=some v→Fr.get fr t=some v):FR K n N fr' tmps:=
 ⟨h.1,fun t v hv=>h.2 t v (hs t v hv)⟩
def cC(K:Kr)(r:Nat):aa→Nat→Prop
 | .cells _,b=>b=K.φ r
 | .map _,b=>b=K.φ r
 | .iter _ _ _,b=>b=K.φ r
 | .siter _ _,b=>b=K.φ r
 | .loop _ _ _ _ _ _ _ _,b=>b=K.φ r
 | .tail m _,b=>∃a cap,K.tl r m=some (some a,cap)∧m<cap∧a.block=b
 | .vec _ xs,b=>∃a cap,K.tl r xs.length=some (some a,cap)∧0<cap∧a.block=b
 | .dead,_=>False
def Jr(K:Kr)(n:Nat)(es:List (AV×AV))(es':Array MapEntry)(clock:Nat):Prop:=
 es.length=es'.size∧clock=es'.size∧∀i (h:i<es.length) (h':i<es'.size),VR K n (es[i]).1 (es'[i]).key∧VR K n (es[i]).2 (es'[i]).val∧(es'[i]).born=i
def eF(K:Kr)(n:Nat)(w:World)(r:Nat):aa→Prop
 | .cells cs=>∃cc E,w.heap[K.φ r]? = some (.cells cc E (0,0))∧VRs K n cs cc.toList∧(∀c∈cc.toList,c.oneCell'=true)∧∀o,K.S (K.φ r) o=none
 | .tail m sz=>∃a cap,K.tl r m=some (a,cap)∧m≤cap∧(∀k,m<k→K.tl r k=none)∧
   (m<cap→∃b o cc E,a=some ⟨b,o,none⟩∧w.heap[b]? = some (.cells cc E (0,0))∧o+cap*sz≤cc.size∧∀p,o+m*sz≤p→K.S b p=none)
 | .map es=>∃es' clock,w.heap[K.φ r]? = some (.map es' clock)∧Jr K n es es' clock
 | .iter m c seen=>∃m',w.heap[K.φ r]? = some (.mapIter m' c seen.toArray c)∧
   (match m with | none=>m'=none | some q=>q<n∧m'=some (K.φ q))
 | .siter s pos=>w.heap[K.φ r]? = some (.stringIter s pos)
 | .loop st pend fn params assign body N fr=>∃l:Loop,w.heap[K.φ r]? = some (.loop l)∧l.state=st∧l.pending=pend∧l.fn=fn∧l.params=params∧l.assign=assign∧l.body=body∧FR K n N fr l.tmps
 | .vec sz xs=>∃a cap,K.tl r xs.length=some (a,cap)∧xs.length≤cap∧(∀k,xs.length<k→K.tl r k=none)∧(∀i (h:i<xs.length),(xs[i]).cells.length=sz)∧
   (0<cap→∃b o cc E,a=some ⟨b,o,none⟩∧w.heap[b]? = some (.cells cc E (0,0))∧o+cap*sz≤cc.size∧
    VRs K n (xs.flatMap AV.cells) ((cc.toList.drop o).take (xs.length*sz))∧(∀c∈cc.toList,c.oneCell'=true)∧∀p,K.S b p=none)
 | .dead=>True
def bj(K:Kr)(σ:List aa)(b:Nat):Prop:=∀r o,σ[r]? = some o→¬cC K r o b
structure R(K:Kr)(σ:List aa)(w:World):Prop where
 stab:∀b o v,K.S b o=some v→w.cell? ⟨b,o,none⟩= some v
 obj:∀r o,σ[r]? = some o→eF K σ.length w r o
 inj:∀r r' o o' b,σ[r]? = some o→σ[r']? = some o'→cC K r o b→cC K r' o' b→r=r'
 lay:∀g cs,gx g=some cs→(∃E fz,w.heap[g]? = some (.cells cs E fz))∧bj K σ g
def frz:Option Obj→Nat×Nat
 | some (.cells _ _ r)=>r
 | _=>(0,0)
structure Step(K:Kr)(σ:List aa)(w:World)(K':Kr)(σ':List aa)(w':World):Prop where
 ext:Ext σ.length K K'
 len:σ.length≤σ'.length
 size:w.heap.size≤w'.heap.size
 keep:∀b,b<w.heap.size→bj K σ b→w'.heap[b]? = w.heap[b]?∧bj K' σ' b∧∀o,K'.S b o=K.S b o
 os:w'.os=w.os
 tape:w'.tape=w.tape
 output:w'.output=w.output
 froz:∀b:Nat,b<w.heap.size→frz w'.heap[b]? = frz w.heap[b]?
 dr:w.drawn≤w'.drawn:=by first | exact Nat.le_refl _ | exact Nat.le_add_right _ _ | assumption
theorem Step.refl(K:Kr)(σ:List aa)(w:World):Step K σ w K σ w:=
 ⟨.refl _ _,Nat.le_refl _,Nat.le_refl _,fun b _ hf=>⟨rfl,hf,fun _=>rfl⟩,rfl,rfl,rfl,fun _ _=>rfl,Nat.le_refl _⟩
theorem Step.trans{K K' K'':Kr}{σ σ' σ'':List aa}{w w' w'':World}(h:Step K σ w K' σ' w')(h':Step K' σ' w' K'' σ'' w''):Step K σ w K'' σ'' w'':=
 ⟨h.ext.trans h'.ext h.len,Nat.le_trans h.len h'.len,Nat.le_trans h.size h'.size,fun b hb hf=>by
  obtain⟨h1,h2,h3⟩:=h.keep b hb hf
  obtain⟨g1,g2,g3⟩:=h'.keep b (Nat.lt_of_lt_of_le hb h.size) h2
  exact⟨g1.trans h1,g2,fun o=>(g3 o).trans (h3 o)⟩,h'.os.trans h.os,h'.tape.trans h.tape,h'.output.trans h.output,fun b hb=>(h'.froz b (Nat.lt_of_lt_of_le hb h.size)).trans (h.froz b hb),Nat.le_trans h.dr h'.dr⟩
theorem R.drew{K:Kr}{σ:List aa}{w:World}(h:R K σ w)(d:Nat):R K σ {w with drawn:=d}:=
 ⟨fun b o v hv=>h.stab b o v hv,fun r o ho=>by have:=h.obj r o ho;cases o<;> exact this,h.inj,h.lay⟩
theorem R.Dc{K K':Kr}{σ σ':List aa}{w w':World}(h:R K σ w)(hs:Step K σ w K' σ' w'):∀g cs,gx g=some cs→(∃E fz,w'.heap[g]? = some (.cells cs E fz))∧bj K' σ' g:=fun g cs hg=>by
 obtain⟨⟨E,fz,h1⟩,h2⟩:=h.lay g cs hg
 obtain⟨k1,k2,_⟩:=hs.keep g (Array.getElem?_eq_some_iff.1 h1).1 h2
 exact⟨⟨E,fz,by rw[k1];exact h1⟩,k2⟩
theorem C8{A B:Prop}(f:B→A)(b:B):A∧B:=⟨f b,b⟩
theorem Step.drew{K K':Kr}{σ σ':List aa}{w w':World}(d:Nat)(h:Step K σ {w with drawn:=d} K' σ' w')(hd:w.drawn≤d:=by first | exact Nat.le_refl _ | exact Nat.le_add_right _ _ | assumption):Step K σ w K' σ' w':=
 ⟨h.ext,h.len,h.size,h.keep,h.os,h.tape,h.output,h.froz,Nat.le_trans hd h.dr⟩
inductive TK where
 | int (k:IntKind)
 | bool
 | str
 | strct (fs:List (Nat×Nat))
 | arr (n e:Nat)
 | slice (e:Nat)
 | map (k e:Nat)
 | ptr (e:Nat)
 | func
 | iface
 | chan
 | other
 deriving DecidableEq,Inhabited
structure TI where
 sz:Nat
 bytes:Nat
 kd:TK
 zero:AV
 eqn:Bool:=false
 vc:Bool:=false
 keyn:Bool:=false
 deriving Inhabited
def TK.agg:TK→Option Bool
 | .strct _=>some true
 | .arr _ _=>some true
 | .other=>none
 | _=>some false
def di:Value→Option AV
 | .bool b=>some (.bool b)
 | .int k n=>some (.int k n)
 | .string s=>some (.str s)
 | .pointer none=>some .nilptr
 | .slice none 0 0=>some (.list .full 0 [])
 | .map none=>some .nilmap
 | .nilFunc=>some .nilfn
 | .nilIface=>some .niliface
 | .chan none=>some (.chan none)
 | _=>none
def lq:List Value→Option (List AV)
 | []=>some []
 | c::cs=>match di c,lq cs with
  | some v,some vs=>some (v::vs)
  | _,_=>none
def kj:Value→Option AV
 | .agg cs=>(lq cs.toList).map .agg
 | .tuple cs=>(lq cs.toList).map .tup
 | v=>di v
def bV(d:TypeDesc):TK→Prop
 | .int k=>d= .int k
 | .bool=>d= .bool
 | .str=>d= .string
 | .strct fs=>∃fields,d= .struct fields∧fs=fields.toList.map fun f=>(f.offset,f.type)
 | .arr n e=>d= .array n e
 | .slice e=>d= .slice e
 | .map k e=>d= .map k e
 | .ptr e=>d= .pointer e
 | .func=>∃a b c,d= .func a b c
 | .iface=>∃m,d= .interface m
 | .chan=>∃r e,d= .chan r e
 | .other=>True
structure uO(P:Program)(t:TypeId)(i:TI):Prop where
 info:∃ti,P.info? t=some ti∧ti.size=i.sz∧ti.bytes=i.bytes∧(∃z,ti.zero=some z∧kj z=some i.zero)∧i.zero.flat=true
 kd:∃d,P.underlying t=some d∧bV d i.kd
def aH(fr:Fr):Operand→Option AV
 | .tmp t=>Fr.get fr t
 | .const v=>kj v
 | .func f=>some (.fn (.func f) [] [])
 | .global _=>none
def bI(fr:Fr):List Operand→Option (List AV)
 | []=>some []
 | x::xs=>match aH fr x,bI fr xs with
  | some v,some vs=>some (v::vs)
  | _,_=>none
def je:AV→List AV→AV
 | .agg _,cs=> .agg cs
 | _,[c]=>c
 | v,_=>v
def ff(off sz:Nat)(cs:List AV):Option Bool→Option AV
 | some true=>if off+sz≤cs.length then some (.agg ((cs.drop off).take sz)) else none
 | some false=>cs[off]?
 | none=>none
def putAt(off:Nat)(new:List AV)(cs:List AV):List AV:=cs.take off++new++cs.drop (off+new.length)
def idx(xs:List AV)(i:Int):Option AV:=if 0≤i then xs[i.toNat]? else none
def oE(place:Nat→Option (Nat×Nat))(cs:List AV):List (Nat×AV)→Option (List AV)
 | []=>some cs
 | (i,v)::rest=>match place i with
  | none=>none
  | some (off,size)=>if v.flat=true∧v.cells.length=size∧off+size≤cs.length then oE place (putAt off v.cells cs) rest else none
def apart(fr:Fr):List (Nat×Operand)→Option (List (Nat×AV))
 | []=>some []
 | (i,x)::xs=>match aH fr x,apart fr xs with
  | some v,some vs=>some ((i,v)::vs)
  | _,_=>none
def uM(sz:Nat):Nat→List (Nat×AV)→Option (List AV)
 | _,[]=>some []
 | k,(i,v)::rest=>if i=k∧v.flat=true∧v.cells.length=sz then(uM sz (k+1) rest).map (v::·) else none
def rI(op:BinOp)(eqn:Bool):AV→AV→Option AV
 | .int k a,.int k' b=>
  match op with
  | .shl=>if 0≤b then some (.int k (k.wrap (a*2^(min b.toNat k.bits)))) else none
  | .shr=>if 0≤b then some (.int k (a.fdiv (2^(min b.toNat k.bits)))) else none
  | _=>if k=k' then match op with
   | .add=>some (.int k (k.wrap (a+b)))
   | .sub=>some (.int k (k.wrap (a-b)))
   | .mul=>some (.int k (k.wrap (a*b)))
   | .quo=>if b=0 then none else some (.int k (k.wrap (a.tdiv b)))
   | .rem=>if b=0 then none else some (.int k (a.tmod b))
   | .and=>some (.int k (k.wrap (BitVec.ofInt k.bits a&&&BitVec.ofInt k.bits b).toNat))
   | .or=>some (.int k (k.wrap (BitVec.ofInt k.bits a|||BitVec.ofInt k.bits b).toNat))
   | .xor=>some (.int k (k.wrap (BitVec.ofInt k.bits a ^^^ BitVec.ofInt k.bits b).toNat))
   | .andNot=>some (.int k (k.wrap (BitVec.ofInt k.bits a&&&~~~ BitVec.ofInt k.bits b).toNat))
   | .eql=>some (.bool (a==b))
   | .neq=>some (.bool (a !=b))
   | .lss=>some (.bool (a<b))
   | .leq=>some (.bool (a≤b))
   | .gtr=>some (.bool (a>b))
   | .geq=>some (.bool (a≥b))
   | _=>none
   else none
 | _,_=>none
def dT:List AV→Option (List Int)
 | []=>some []
 | .int .i64 n::cs=>(dT cs).map (n::·)
 | _=>none
def uR:TK→AV→Option Nat
 | .slice _,.list _ _ xs=>some xs.length
 | .slice _,.arr _ _ n=>some n
 | .slice _,.vec _ n=>some n
 | .str,.str s=>some s.size
 | _,_=>none
def sr(k:IntKind)(a:Int):List AV→Option AV
 | []=>some (.int k a)
 | .int _ b::r=>sr k (if b>a then b else a) r
 | _=>none
def r9(k:IntKind)(a:Int):List AV→Option AV
 | []=>some (.int k a)
 | .int _ b::r=>r9 k (if b<a then b else a) r
 | _=>none
def D6:List AV→Option AV
 | .int k a::r=>sr k a r
 | _=>none
def C6:List AV→Option AV
 | .int k a::r=>r9 k a r
 | _=>none
def pop(ty:Nat→TI)(fr:Fr)(type:TypeId):Op→Option AV
 | .move x=>aH fr x
 | .assign x=>aH fr x
 | .pick c a b=>match aH fr c,aH fr a,aH fr b with
  | some (.bool cb),some va,some vb=>some (if cb then va else vb)
  | _,_,_=>none
 | .build t parts=>match apart fr parts.toList,(ty t).kd with
  | some ps,.strct fs=>if fs.all (fun p=>(ty p.2).kd.agg.isSome) then(oE (fun i=>(fs[i]?).map fun p=>(p.1,(ty p.2).sz)) (ty t).zero.cells ps).map .agg else none
  | some ps,.arr _ e=>if(ty e).kd.agg.isSome then(oE (fun i=>some (i*(ty e).sz,(ty e).sz)) (ty t).zero.cells ps).map .agg else none
  | _,_=>none
 | .fieldAddr t x f=>match (ty t).kd,aH fr x with
  | .strct fs,some (.ptr r off)=>match fs[f]? with
   | some p=>if(ty p.2).kd.agg=none∨(ty p.2).sz=0 then none else some (.ptr r (off+p.1))
   | none=>none
  | .strct fs,some (.eptr cs off)=>match fs[f]? with
   | some p=>if(ty p.2).kd.agg=none∨(ty p.2).sz=0 then none else some (.eptr cs (off+p.1))
   | none=>none
  | .strct fs,some (.vptr r m sz i off)=>match fs[f]? with
   | some p=>if(ty p.2).kd.agg=none∨(ty p.2).sz=0 then none else some (.vptr r m sz i (off+p.1))
   | none=>none
  | _,_=>none
 | .field t x f=>match (ty t).kd,aH fr x with
  | .strct fs,some (.agg cs)=>match fs[f]? with
   | some p=>ff p.1 (ty p.2).sz cs (ty p.2).kd.agg
   | none=>none
  | _,_=>none
 | .index t x i=>match (ty t).kd,aH fr x,aH fr i with
  | .arr n e,some (.agg cs),some (.int _ i)=>if 0≤i∧i<n then ff (i.toNat*(ty e).sz) (ty e).sz cs (ty e).kd.agg else none
  | .str,some (.str s),some (.int _ i)=>if 0≤i then(s[i.toNat]?).map fun b=> .int .u8 b.toNat else none
  | _,_,_=>none
 | .indexAddr t x i=>match (ty t).kd,aH fr x,aH fr i with
  | .slice e,some (.list _ sz xs),some (.int _ i)=>if sz=(ty e).sz∧(ty e).kd.agg.isSome then(idx xs i).map fun x=> .eptr x.cells 0 else none
  | .slice e,some (.arr r off len),some (.int _ i)=>if 0≤i∧i<len∧(ty e).kd.agg.isSome then some (.ptr r (off+i.toNat*(ty e).sz)) else none
  | .slice e,some (.vec r len),some (.int _ i)=>if 0≤i∧i<len∧(ty e).kd.agg.isSome then some (.vptr r len (ty e).sz i.toNat 0) else none
  | .arr n e,some (.vptr r m sz k off),some (.int _ i)=>if 0≤i∧i<n∧1<n∧(ty e).kd.agg.isSome then some (.vptr r m sz k (off+i.toNat*(ty e).sz)) else none
  | .arr n e,some (.ptr r off),some (.int _ i)=>if 0≤i∧i<n∧1<n∧(ty e).kd.agg.isSome then some (.ptr r (off+i.toNat*(ty e).sz)) else none
  | .arr n e,some (.eptr cs off),some (.int _ i)=>if 0≤i∧i<n∧1<n∧(ty e).kd.agg.isSome then some (.eptr cs (off+i.toNat*(ty e).sz)) else none
  | _,_,_=>none
 | .nilCheck x=>match aH fr x with
  | some (.ptr r off)=>some (.ptr r off)
  | some (.eptr cs off)=>some (.eptr cs off)
  | some (.vptr r m sz i off)=>some (.vptr r m sz i off)
  | some (.fn (.func f) a b)=>some (.fn (.func f) a b)
  | _=>none
 | .binOp op t x y _=>match aH fr x,aH fr y with
  | some (.int k a),some (.int k' b)=>rI op (ty t).eqn (.int k a) (.int k' b)
  | some (.agg a),some (.agg b)=>if(ty t).eqn then match dT a,dT b,op with
   | some xs,some ys,.eql=>if xs.length=(ty t).sz∧ys.length=(ty t).sz then some (.bool (xs==ys)) else none
   | some xs,some ys,.neq=>if xs.length=(ty t).sz∧ys.length=(ty t).sz then some (.bool (xs !=ys)) else none
   | _,_,_=>none
   else none
  | some (.bool a),some (.bool b)=>match op,(ty t).kd with
   | .eql,.bool=>some (.bool (a==b))
   | .neq,.bool=>some (.bool (a !=b))
   | _,_=>none
  | some (.str a),some (.str b)=>match op with
   | .eql=>some (.bool (a.toList==b.toList))
   | .neq=>some (.bool (!(a.toList==b.toList)))
   | .add=>if a.size+b.size≤9223372036854775807 then some (.str (a++b)) else none
   | _=>none
  | _,_=>none
 | .unOp op _ x=>match op,aH fr x with
  | .not,some (.bool b)=>some (.bool (!b))
  | .neg,some (.int k n)=>some (.int k (k.wrap (0-n)))
  | _,_=>none
 | .convert s d x=>match (ty s).kd,(ty d).kd,aH fr x with
  | .int _,.int k,some (.int _ n)=>some (.int k (k.wrap n))
  | _,_,_=>none
 | .makeInterface t x=>match (ty t).kd,aH fr x with
  | .iface,_=>none
  | .other,_=>none
  | _,some v=>some (.iface t v)
  | _,_=>none
 | .makeFunc f a b=>match bI fr a.toList,bI fr b.toList with
  | some a,some b=>some (.fn f a b)
  | _,_=>none
 | .extract x i=>match aH fr x with
  | some (.tup vs)=>vs[i]?
  | _=>none
 | .typeAssert x _ t ok=>match (ty t).kd,aH fr x with
  | .iface,_=>none
  | .other,_=>none
  | _,some (.iface u v)=>if ok then(if(ty t).zero.flat then some (if u=t then .tup [v,.bool true] else(.tup [(ty t).zero,.bool false])) else none) else(if u=t then some v else none)
  | _,_=>none
 | .slice t x lo hi mx=>match mx,(ty t).kd,aH fr x with
  | none,.slice e,some (.list tk sz xs)=>
   match (match hi with | none=>some (xs.length:Int) | some h=>match aH fr h with | some (.int _ h)=>some h | _=>none),
      (match lo with | none=>some (0:Int) | some l=>match aH fr l with | some (.int _ l)=>some l | _=>none) with
   | some h,some l=>if sz=(ty e).sz∧(ty e).kd.agg.isSome∧0≤l∧l≤h∧h≤xs.length then some (.list .no sz ((xs.take h.toNat).drop l.toNat)) else none
   | _,_=>none
  | none,.arr n e,some (.ptr r off)=>if lo=none∧hi=none∧(ty e).kd.agg.isSome then some (.arr r off n) else none
  | none,.str,some (.str s)=>
   match (match hi with | none=>some (s.size:Int) | some h=>match aH fr h with | some (.int _ h)=>some h | _=>none),
      (match lo with | none=>some (0:Int) | some l=>match aH fr l with | some (.int _ l)=>some l | _=>none) with
   | some h,some l=>if 0≤l∧l≤h∧h≤s.size then some (.str (s.extract l.toNat h.toNat)) else none
   | _,_=>none
  | _,_,_=>none
 | .call {callee:= .builtin b,args,argTypes}=>match b,bI fr args.toList with
  | .len,some [v]=>match argTypes[0]? with
   | some t=>(uR (ty t).kd v).map fun n=> .int .i64 n
   | none=>none
  | .max,some vs=>D6 vs
  | .min,some vs=>C6 vs
  | _,_=>none
 | _=>none
def dF(z:Nat):AV→AV
 | .list t sz xs=>if sz=z∨xs=[] then .list .no z xs else .list t sz xs
 | v=>v
def pd:Option Nat→List AV→List AV
 | none,xs=>xs
 | some z,xs=>xs.map (dF z)
def QL:TK→Option Nat
 | .slice e=>some e
 | _=>none
def cU(ty:Nat→TI)(fr:Fr):Op→Option AV
 | .buildSlice t len parts=>match apart fr parts.toList,(ty t).kd with
  | some ps,.slice e=>if(ty e).kd.agg.isSome∧ps.length=len∧len*(ty e).sz≤16777216∧0<(ty e).sz∧(ty e).zero.cells.length=(ty e).sz then(uM (ty e).sz 0 ps).map (fun xs=> .list .full (ty e).sz (pd ((QL (ty e).kd).map fun e'=>(ty e').sz) xs)) else none
  | _,_=>none
 | _=>none
end Go.Mu
namespace Go.Mu
open Go
variable {P:Program}{K:Kr}{n N:Nat}{ty:Nat→TI}
theorem VRs.nil:VRs K n [] []:=⟨rfl,fun i h=>by simp at h⟩
theorem VRs.cons{v:AV}{c:Value}{l:List AV}{l':List Value}(h:VR K n v c)(hl:VRs K n l l'):VRs K n (v::l) (c::l'):=
 ⟨by simp[hl.1],fun i h1 h2=>by
  cases i with
  | zero=>exact h
  | succ i=>exact hl.2 i (by simpa using h1) (by simpa using h2)⟩
theorem VRs.head{v:AV}{c:Value}{l:List AV}{l':List Value}(h:VRs K n (v::l) (c::l')):VR K n v c:=h.2 0 (by simp) (by simp)
theorem VRs.tail{v:AV}{c:Value}{l:List AV}{l':List Value}(h:VRs K n (v::l) (c::l')):VRs K n l l':=
 ⟨by simpa using h.1,fun i h1 h2=>by have:=h.2 (i+1) (by simpa using h1) (by simpa using h2);simpa using this⟩
theorem VRs.get{l:List AV}{l':List Value}{i:Nat}{v:AV}(h:VRs K n l l')(hv:l[i]? = some v):∃c,l'[i]? = some c∧VR K n v c:=by
 obtain⟨hlt,rfl⟩:=List.getElem?_eq_some_iff.1 hv
 have h2:i<l'.length:=by rw[← h.1];exact hlt
 exact⟨l'[i],List.getElem?_eq_getElem h2,h.2 i hlt h2⟩
theorem VRs.append{l m:List AV}{l' m':List Value}(h:VRs K n l l')(h':VRs K n m m'):VRs K n (l++m) (l'++m'):=by
 refine⟨by simp[h.1,h'.1],fun i h1 h2=>?_⟩
 by_cases hi:i<l.length
 ·rw[List.getElem_append_left hi,List.getElem_append_left (by rw[← h.1];exact hi)]
  exact h.2 i hi _
 ·rw[List.getElem_append_right (by omega),List.getElem_append_right (by rw[← h.1];omega)]
  have:=h'.2 (i-l.length) (by simp at h1;omega) (by simp at h2;rw[← h.1] at h2;omega)
  simpa[h.1] using this
theorem VRs.take{l:List AV}{l':List Value}(h:VRs K n l l')(k:Nat):VRs K n (l.take k) (l'.take k):=
 ⟨by simp[h.1],fun i h1 h2=>by simpa using h.2 i (by simp at h1;omega) (by simp at h2;omega)⟩
theorem VRs.drop{l:List AV}{l':List Value}(h:VRs K n l l')(k:Nat):VRs K n (l.drop k) (l'.drop k):=
 ⟨by simp[h.1],fun i h1 h2=>by simpa using h.2 (k+i) (by simp at h1;omega) (by simp at h2;omega)⟩
theorem VR.cells{v:AV}{c:Value}(h:VR K n v c)(hf:v.flat=true):VRs K n v.cells c.cells.toList∧∀x∈c.cells.toList,x.oneCell'=true:=by
 cases h with
 | agg cs cs' hl h1 h=>exact⟨⟨by simpa[AV.cells,Value.cells] using hl,by simpa[AV.cells,Value.cells] using h⟩,by simpa[Value.cells] using h1⟩
 | tup=>simp[AV.flat] at hf
 | bool b=>exact⟨.cons (.bool b) .nil,by simp[Value.cells,Value.oneCell']⟩
 | int k i=>exact⟨.cons (.int k i) .nil,by simp[Value.cells,Value.oneCell']⟩
 | str s=>exact⟨.cons (.str s) .nil,by simp[Value.cells,Value.oneCell']⟩
 | ptr r off h=>exact⟨.cons (.ptr r off h) .nil,by simp[Value.cells,Value.oneCell']⟩
 | nilptr=>exact⟨.cons .nilptr .nil,by simp[Value.cells,Value.oneCell']⟩
 | eptr cs off b o f hS h1 h=>exact⟨.cons (.eptr cs off b o f hS h1 h) .nil,by simp[Value.cells,Value.oneCell']⟩
 | list t sz xs a cap f hl ht ha hs h1 h=>exact⟨.cons (.list t sz xs a cap f hl ht ha hs h1 h) .nil,by simp[Value.cells,Value.oneCell']⟩
 | arr r off len a cap h hl ha=>exact⟨.cons (.arr r off len a cap h hl ha) .nil,by simp[Value.cells,Value.oneCell']⟩
 | vec r len a cap h hl ht ha=>exact⟨.cons (.vec r len a cap h hl ht ha) .nil,by simp[Value.cells,Value.oneCell']⟩
 | vptr r m sz i off b o cap h ht=>exact⟨.cons (.vptr r m sz i off b o cap h ht) .nil,by simp[Value.cells,Value.oneCell']⟩
 | map r h=>exact⟨.cons (.map r h) .nil,by simp[Value.cells,Value.oneCell']⟩
 | nilmap=>exact⟨.cons .nilmap .nil,by simp[Value.cells,Value.oneCell']⟩
 | fn f first cap first' cap' h1 h2 g1 g2=>exact⟨.cons (.fn f first cap first' cap' h1 h2 g1 g2) .nil,by simp[Value.cells,Value.oneCell']⟩
 | yield r h=>exact⟨.cons (.yield r h) .nil,by simp[Value.cells,Value.oneCell']⟩
 | nilfn=>exact⟨.cons .nilfn .nil,by simp[Value.cells,Value.oneCell']⟩
 | iface t v c h=>exact⟨.cons (.iface t v c h) .nil,by simp[Value.cells,Value.oneCell']⟩
 | niliface=>exact⟨.cons .niliface .nil,by simp[Value.cells,Value.oneCell']⟩
 | chan c=>exact⟨.cons (.chan c) .nil,by simp[Value.cells,Value.oneCell']⟩
theorem pf{c:Value}{v:AV}(h:di c=some v):VR K n v c∧c.oneCell'=true:=by
 cases c with
 | bool b=>simp[di] at h;subst h;exact⟨.bool b,rfl⟩
 | int k i=>simp[di] at h;subst h;exact⟨.int k i,rfl⟩
 | string s=>simp[di] at h;subst h;exact⟨.str s,rfl⟩
 | pointer a=>cases a with
  | none=>simp[di] at h;subst h;exact⟨.nilptr,rfl⟩
  | some a=>simp[di] at h
 | slice a l cp=>
  cases a with
  | some a=>simp[di] at h
  | none=>
   cases l with
   | succ l=>simp[di] at h
   | zero=>cases cp with
    | succ l=>simp[di] at h
    | zero=>
     simp[di] at h;subst h
     exact⟨.list .full 0 [] none 0 (fun _ _=>undef) (Nat.le_refl _) rfl (fun h=>absurd rfl h) (fun i hi=>by simp at hi) (fun i j hi=>by simp at hi) (fun i j hi=>by simp at hi),rfl⟩
 | map r=>cases r with
  | none=>simp[di] at h;subst h;exact⟨.nilmap,rfl⟩
  | some r=>simp[di] at h
 | nilFunc=>simp[di] at h;subst h;exact⟨.nilfn,rfl⟩
 | nilIface=>simp[di] at h;subst h;exact⟨.niliface,rfl⟩
 | chan r=>cases r with
  | none=>simp[di] at h;subst h;exact⟨.chan none,rfl⟩
  | some r=>simp[di] at h
 | _=>simp[di] at h
theorem lx:∀{cs:List Value} {vs:List AV},lq cs=some vs→VRs K n vs cs∧∀c∈cs,c.oneCell'=true
 | [],vs,h=>by simp[lq] at h;subst h;exact⟨.nil,by simp⟩
 | c::cs,vs,h=>by
  simp only[lq] at h
  split at h
  ·rename_i v vs' h1 h2
   simp at h;subst h
   obtain⟨a1,a2⟩:=pf (K:=K) (n:=n) h1
   obtain⟨b1,b2⟩:=lx h2
   exact⟨.cons a1 b1,by simpa[a2] using b2⟩
  ·simp at h
theorem VRs.agg{vs:List AV}{cs:Array Value}(h:VRs K n vs cs.toList)(h1:∀c∈cs.toList,c.oneCell'=true):VR K n (.agg vs) (.agg cs):=by
 have:=VR.agg (K:=K) (n:=n) vs cs.toList h.1 h1 h.2
 simpa using this
theorem VRs.tup{vs:List AV}{cs:Array Value}(h:VRs K n vs cs.toList):VR K n (.tup vs) (.tuple cs):=by
 have:=VR.tup (K:=K) (n:=n) vs cs.toList h.1 h.2
 simpa using this
theorem VRs.fn{f:Fn}{a b:List AV}{a' b':Array Value}(h:VRs K n a a'.toList)(h':VRs K n b b'.toList):VR K n (.fn f a b) (.func f a' b'):=by
 have:=VR.fn (K:=K) (n:=n) f a b a'.toList b'.toList h.1 h'.1 h.2 h'.2
 simpa using this
theorem qS{c:Value}{v:AV}(h:kj c=some v):VR K n v c:=by
 cases c with
 | agg cs=>
  simp only[kj,Option.map_eq_some_iff] at h
  obtain⟨vs,h1,rfl⟩:=h
  obtain⟨a,b⟩:=lx (K:=K) (n:=n) h1
  exact a.agg b
 | tuple cs=>
  simp only[kj,Option.map_eq_some_iff] at h
  obtain⟨vs,h1,rfl⟩:=h
  exact(lx (K:=K) (n:=n) h1).1.tup
 | _=>exact(pf (by simpa only[kj] using h)).1
theorem ak{fr:Fr}{a:Act}{x:Operand}{v:AV}(hF:FR K n N fr a.tmps)(h:aH fr x=some v):VR K n v (a.eval x):=by
 cases x with
 | tmp t=>
  obtain⟨c,h1,h2⟩:=hF.2 t v h
  simpa[Act.eval,h1] using h2
 | const c=>exact qS h
 | func f=>
  simp[aH] at h;subst h
  exact VRs.fn (a:=[]) (b:=[]) (a':=#[]) (b':=#[]) .nil .nil
 | global g=>simp[aH] at h
theorem cg{fr:Fr}{a:Act}(hF:FR K n N fr a.tmps):∀{xs:List Operand} {vs:List AV},bI fr xs=some vs→VRs K n vs (xs.map a.eval)
 | [],vs,h=>by simp[bI] at h;subst h;exact .nil
 | x::xs,vs,h=>by
  simp only[bI] at h
  split at h
  ·rename_i v vs' h1 h2
   simp at h;subst h
   exact .cons (ak hF h1) (cg hF h2)
  ·simp at h
def b9(P:Program)(ty:Nat→TI):Prop:=∀t,(ty t).kd≠ .other→uO P t (ty t)
theorem aL{t:Nat}(h:b9 P ty)(hk:(ty t).kd≠ .other):∃d,bV d (ty t).kd∧∀w,(underlying t).run P w= .ok d w:=by
 obtain⟨d,h1,h2⟩:=(h t hk).kd
 exact⟨d,h2,fun w=>run_underlying h1 w⟩
theorem l5{t:Nat}(h:b9 P ty)(hk:(ty t).kd≠ .other):∃i:TypeInfo,i.size=(ty t).sz∧i.bytes=(ty t).bytes∧(∃z,i.zero=some z∧kj z=some (ty t).zero)∧∀w,(typeInfo t).run P w= .ok i w:=by
 obtain⟨i,h1,h2,h3,h4,h5⟩:=(h t hk).info
 exact⟨i,h2,h3,h4,fun w=>by simp[typeInfo,h1]⟩
theorem gN{t:Nat}(h:b9 P ty)(hk:(ty t).kd≠ .other):(ty t).zero.flat=true:=by
 obtain⟨i,_,_,_,_,h5⟩:=(h t hk).info
 exact h5
theorem aY{t:Nat}(h:b9 P ty)(hk:(ty t).kd≠ .other)(w:World):(sizeOf t).run P w= .ok (ty t).sz w:=by
 obtain⟨i,h1,_,_,h2⟩:=l5 h hk
 simp[Go.sizeOf,h2 w,h1]
theorem fl{t:Nat}(h:b9 P ty)(hk:(ty t).kd≠ .other):∃z,VR K n (ty t).zero z∧∀w,(zeroValue t).run P w= .ok z w:=by
 obtain⟨i,_,_,⟨z,h3,h4⟩,h2⟩:=l5 h hk
 exact⟨z,qS h4,fun w=>by simp[zeroValue,h2 w,h3]⟩
theorem iW{t:Nat}{b:Bool}(h:b9 P ty)(hb:(ty t).kd.agg=some b)(w:World):(isAgg t).run P w= .ok b w:=by
 have hk:(ty t).kd≠ .other:=by intro e;rw[e] at hb;simp[TK.agg] at hb
 obtain⟨d,h1,h2⟩:=aL h hk
 simp only[isAgg,Sem.run_bind,h2 w,Result.andThen_ok]
 generalize (ty t).kd=kd at *
 cases kd<;> simp only[TK.agg,Option.some.injEq,reduceCtorEq] at hb<;> try subst hb
 case func=>obtain⟨a,b,c,rfl⟩:=h1;rfl
 case iface=>obtain⟨m,rfl⟩:=h1;rfl
 case chan=>obtain⟨r,e,rfl⟩:=h1;rfl
 case strct=>obtain⟨f,rfl,_⟩:=h1;rfl
 all_goals (simp only[bV] at h1;subst h1;rfl)
theorem VRs.Pe{l':List Value}{x:Value}{i:Nat}(h1:∀c∈l',c.oneCell'=true)(h:l'[i]? = some x):x.oneCell'=true:=h1 x (List.mem_of_getElem? h)
theorem wu{t off:Nat}{cs:List AV}{cc:Array Value}{v:AV}(h:b9 P ty)(hc:VRs K n cs cc.toList)(h1:∀c∈cc.toList,c.oneCell'=true)
  (hs:ff off (ty t).sz cs (ty t).kd.agg=some v) (w:World):∃c,(part t cc off).run P w= .ok c w∧VR K n v c∧(v.flat=true):=by
 cases hb:(ty t).kd.agg with
 | none=>rw[hb] at hs;simp[ff] at hs
 | some b=>
  have hk:(ty t).kd≠ .other:=by intro e;rw[e] at hb;simp[TK.agg] at hb
  rw[hb] at hs
  simp only[part,Sem.run_bind,iW h hb w,Result.andThen_ok]
  cases b with
  | true=>
   simp only[ff] at hs
   split at hs
   ·simp at hs;subst hs
    refine⟨_,by simp[aY h hk w];rfl,?_,rfl⟩
    refine VRs.agg ?_ ?_
    ·have:=(hc.drop off).take (ty t).sz
     simpa[Array.toList_extract,List.extract] using this
    ·intro c hcm
     simp[Array.toList_extract,List.extract] at hcm
     exact h1 c (by have:=List.mem_of_mem_take hcm;exact List.mem_of_mem_drop this)
   ·simp at hs
  | false=>
   simp only[ff] at hs
   obtain⟨c,h2,h3⟩:=hc.get hs
   refine⟨c,by simp at h2;simp[h2],h3,?_⟩
   have:=VRs.Pe h1 h2
   cases h3<;> simp[AV.flat,Value.oneCell'] at this⊢
structure oN(P:Program)(ty:Nat→TI):Prop where
 guard:∀t,(ty t).eqn=true→P.eqGuardType P.depth t=false
 eq:∀t,(ty t).eqn=true→∀(xs ys:List Int) (w:World),xs.length=(ty t).sz→ys.length=(ty t).sz→
  (Op.equal t (.agg (xs.map (.int .i64)).toArray) (.agg (ys.map (.int .i64)).toArray)).run P w= .ok (xs==ys) w
 kkd:∀t,(ty t).keyn=true→(ty t).kd≠ .other
 keq:∀t,(ty t).keyn=true→∀(xs ys:List Int) (w:World),xs.length=(ty t).sz→ys.length=(ty t).sz→
  (Op.equal t (.agg (xs.map (.int .i64)).toArray) (.agg (ys.map (.int .i64)).toArray)).run P w= .ok (xs==ys) w
 kck:∀t,(ty t).keyn=true→∀(e:Bool) (xs:List Int) (w:World),xs.length=(ty t).sz→
  (Instr.checkKey e 10000 t (.agg (xs.map (.int .i64)).toArray)).run P w= .ok () w
theorem ep:∀{cs:List AV} {xs:List Int} {cc:List Value},dT cs=some xs→VRs K n cs cc→cc=xs.map (.int .i64)
 | [],xs,cc,h,hv=>by
  simp[dT] at h;subst h
  have:=hv.1
  simp at this;simp[List.length_eq_zero_iff.1 this.symm]
 | c::cs,xs,cc,h,hv=>by
  cases cc with
  | nil=>have:=hv.1;simp at this
  | cons d ds=>
   cases c with
   | int k i=>
    cases k with
    | i64=>
     simp only[dT,Option.map_eq_some_iff] at h
     obtain⟨ys,h1,rfl⟩:=h
     have h2:=hv.head
     cases h2
     simp[ep h1 hv.tail]
    | _=>simp[dT] at h
   | _=>simp[dT] at h
theorem Al(op:BinOp)(t:TypeId)(x y:Operand)(k k':IntKind)(p q:Int)(w:World):(eqGuard op t x y (.int k p) (.int k' q)).run P w= .ok () w:=by
 unfold eqGuard;cases op<;> rfl
theorem pR(op:BinOp)(t:TypeId)(x y:Operand)(p q:Bool)(w:World):(eqGuard op t x y (.bool p) (.bool q)).run P w= .ok () w:=by
 unfold eqGuard;cases op<;> rfl
theorem mC(op:BinOp)(t:TypeId)(x y:Operand)(p q:ByteArray)(w:World):(eqGuard op t x y (.string p) (.string q)).run P w= .ok () w:=by
 unfold eqGuard;cases op<;> rfl
theorem qM{t:TypeId}(hE:P.eqGuardType P.depth t=false)(op:BinOp)(x y:Operand)(p q:Array Value)(w:World):(eqGuard op t x y (.agg p) (.agg q)).run P w= .ok () w:=by
 unfold eqGuard;cases op<;> simp[hE]
theorem ET{op:BinOp}{e:Bool}{k k':IntKind}{p q:Int}{v:AV}(h:rI op e (.int k p) (.int k' q)=some v)(t:TypeId)(w:World) :
  ∃c,(binOp op t (.int k p) (.int k' q)).run P w= .ok c w∧VR K n v c:=by
 by_cases hs:op= .shl
 ·subst hs
  simp only[rI] at h
  split at h
  ·rename_i hq
   simp at h;subst h
   refine⟨_,?_,.int _ _⟩
   have:¬q<0:=by omega
   simp[binOp,Op.shift,this]
  ·simp at h
 by_cases hs':op= .shr
 ·subst hs'
  simp only[rI] at h
  split at h
  ·rename_i hq
   simp at h;subst h
   refine⟨_,?_,.int _ _⟩
   have:¬q<0:=by omega
   simp[binOp,Op.shift,this]
  ·simp at h
 by_cases hk:k=k'
 ·subst hk
  cases op<;> simp only[rI,if_true] at h
  case shl=>exact absurd rfl hs
  case shr=>exact absurd rfl hs'
  case quo=>
   split at h
   ·simp at h
   ·rename_i hq
    simp at h;subst h
    exact⟨_,by simp[binOp,Op.intDiv,hq],.int _ _⟩
  case rem=>
   split at h
   ·simp at h
   ·rename_i hq
    simp at h;subst h
    exact⟨_,by simp[binOp,Op.intDiv,hq],.int _ _⟩
  all_goals
   first
    | (simp at h;done)
    | (simp only[Option.some.injEq] at h;subst h;first | exact⟨_,by simp only[binOp,Op.intArith,Op.intBits,Op.intCmp,ne_eq,not_true_eq_false,if_false];rfl,.int _ _⟩ | exact⟨_,by simp only[binOp,Op.intArith,Op.intBits,Op.intCmp,ne_eq,not_true_eq_false,if_false];rfl,.bool _⟩)
 ·cases op<;> simp[rI,hk] at h
  case shl=>exact absurd rfl hs
  case shr=>exact absurd rfl hs'
theorem Cs{hT:b9 P ty}{t m:Nat}{v:AV}{c:Value}(h:uR (ty t).kd v=some m)(hv:VR K n v c)(at':Array TypeId)(ht:at'[0]? = some t)(type:TypeId)(w:World) :
  (Builtin.len_ at' type #[c]).run P w= .ok (.int .i64 m) w:=by
 have hk:(ty t).kd≠ .other:=by intro e;rw[e] at h;cases v<;> simp[uR] at h
 obtain⟨d,h1,h2⟩:=aL hT hk
 generalize (ty t).kd=kd at *
 cases hv<;> cases kd<;> simp only[uR,Option.some.injEq,reduceCtorEq] at h<;> subst h<;> simp only[bV] at h1<;> subst h1<;>
  simp[Builtin.len_,ht,h2 w,goInt]
theorem sX:∀{vs:List AV} {k:IntKind} {a:Int} {v:AV} {cs:List Value},sr k a vs=some v→VRs K n vs cs→∀w,∃c,(cs.foldlM Builtin.max2 (.int k a)).run P w= .ok c w∧VR K n v c
 | [],k,a,v,cs,h,hv,w=>by
  simp[sr] at h;subst h
  have:=hv.1
  simp at this;obtain rfl:=List.length_eq_zero_iff.1 this.symm
  exact⟨_,rfl,.int _ _⟩
 | x::vs,k,a,v,cs,h,hv,w=>by
  cases cs with
  | nil=>have:=hv.1;simp at this
  | cons d ds=>
   cases x with
   | int k' b=>
    have h2:=hv.head
    cases h2
    simp only[sr] at h
    obtain⟨c,h3,h4⟩:=sX h hv.tail w
    exact⟨c,by simpa[Builtin.max2] using h3,h4⟩
   | _=>simp[sr] at h
theorem tK:∀{vs:List AV} {k:IntKind} {a:Int} {v:AV} {cs:List Value},r9 k a vs=some v→VRs K n vs cs→∀w,∃c,(cs.foldlM Builtin.min2 (.int k a)).run P w= .ok c w∧VR K n v c
 | [],k,a,v,cs,h,hv,w=>by
  simp[r9] at h;subst h
  have:=hv.1
  simp at this;obtain rfl:=List.length_eq_zero_iff.1 this.symm
  exact⟨_,rfl,.int _ _⟩
 | x::vs,k,a,v,cs,h,hv,w=>by
  cases cs with
  | nil=>have:=hv.1;simp at this
  | cons d ds=>
   cases x with
   | int k' b=>
    have h2:=hv.head
    cases h2
    simp only[r9] at h
    obtain⟨c,h3,h4⟩:=tK h hv.tail w
    exact⟨c,by simpa[Builtin.min2] using h3,h4⟩
   | _=>simp[r9] at h
theorem mJ{fr:Fr}{a:Act}(hF:FR K n N fr a.tmps):∀{ps:List (Nat×Operand)} {vs:List (Nat×AV)},apart fr ps=some vs→
  vs.map (·.1)=ps.map (·.1)∧VRs K n (vs.map (·.2)) (ps.map fun p=>a.eval p.2)
 | [],vs,h=>by simp[apart] at h;subst h;exact⟨rfl,.nil⟩
 | (i,x)::ps,vs,h=>by
  simp only[apart] at h
  split at h
  ·rename_i v vs' h1 h2
   simp at h;subst h
   obtain⟨b1,b2⟩:=mJ hF h2
   exact⟨by simp[b1],.cons (ak hF h1) b2⟩
  ·simp at h
theorem qd:∀(vs:List Value) (j off:Nat) (cs:Array Value),off+j+vs.length≤cs.size→
  ((vs.zipIdx j).foldl (fun(cs:Array Value) (p:Value×Nat)=>cs.setIfInBounds (off+p.2) p.1) cs).toList=cs.toList.take (off+j)++vs++cs.toList.drop (off+j+vs.length)
 | [],j,off,cs,h=>by simp
 | v::vs,j,off,cs,h=>by
  simp only[List.length_cons] at h
  simp only[List.zipIdx_cons,List.foldl_cons]
  rw[qd vs (j+1) off _ (by simp;omega)]
  simp only[Array.toList_setIfInBounds,List.length_cons]
  have h1:off+j<cs.toList.length:=by simp;omega
  rw[show off+(j+1)=off+j+1 from by omega,List.take_set,List.drop_set,if_pos (by omega),List.take_succ_eq_append_getElem h1]
  rw[List.set_append,if_neg (by simp;omega)]
  simp only[List.length_take,Nat.min_eq_left (Nat.le_of_lt h1),Nat.sub_self,List.set_cons_zero]
  simp only[List.append_assoc,List.cons_append,List.nil_append]
  rw[show off+j+1+vs.length=off+j+(vs.length+1) from by omega]
theorem n0(place:Nat→Option (Nat×Nat)):∀{ps:List (Nat×AV)} {cs cs':List AV} {ps':List (Nat×Value)} {cc:Array Value},
  oE place cs ps=some cs'→ps.map (·.1)=ps'.map (·.1)→VRs K n (ps.map (·.2)) (ps'.map (·.2))→VRs K n cs cc.toList→(∀c∈cc.toList,c.oneCell'=true)→
  ∃cc',Instr.fill place cc ps'=some cc'∧VRs K n cs' cc'.toList∧(∀c∈cc'.toList,c.oneCell'=true)
 | [],cs,cs',ps',cc,h,h1,h2,h3,h4=>by
  simp[oE] at h;subst h
  cases ps' with
  | nil=>exact⟨cc,rfl,h3,h4⟩
  | cons=>simp at h1
 | (i,v)::ps,cs,cs',ps',cc,h,h1,h2,h3,h4=>by
  cases ps' with
  | nil=>simp at h1
  | cons q qs=>
   obtain⟨i',c⟩:=q
   simp only[List.map_cons,List.cons.injEq] at h1 h2
   obtain⟨rfl,h1⟩:=h1
   simp only[oE] at h
   cases hp:place i with
   | none=>simp[hp] at h
   | some os=>
    obtain⟨off,size⟩:=os
    simp only[hp] at h
    split at h
    ·rename_i hc
     obtain⟨hf,hs,hl⟩:=hc
     obtain⟨g1,g2⟩:=h2.head.cells hf
     have g3:c.cells.size=size:=by have:=g1.1;simp at this;omega
     have g4:off+size≤cc.size:=by have:=h3.1;simp at this;omega
     have hput:(c.cells.zipIdx.foldl (fun(cs:Array Value) (p:Value×Nat)=>cs.setIfInBounds (off+p.2) p.1) cc).toList=cc.toList.take off++c.cells.toList++cc.toList.drop (off+size):=by
      rw[← Array.foldl_toList,Array.toList_zipIdx]
      rw[qd c.cells.toList 0 off cc (by simp;omega)]
      simp[g3]
     simp only[Instr.fill,hp]
     rw[if_neg (by simp[g3];omega)]
     refine n0 place h h1 h2.tail ?_ ?_
     ·have:VRs K n (putAt off v.cells cs) (cc.toList.take off++c.cells.toList++cc.toList.drop (off+size)):=by
       unfold putAt
       rw[hs]
       exact((h3.take off).append g1).append (h3.drop _)
      rw[← hput] at this
      exact this
     ·intro x hx
      have hx':x∈(c.cells.zipIdx.foldl (fun(cs:Array Value) (p:Value×Nat)=>cs.setIfInBounds (off+p.2) p.1) cc).toList:=hx
      rw[hput] at hx'
      simp only[List.mem_append] at hx'
      rcases hx' with(hx' | hx') | hx'
      ·exact h4 x (List.mem_of_mem_take hx')
      ·exact g2 x hx'
      ·exact h4 x (List.mem_of_mem_drop hx')
    ·simp at h
end Go.Mu
