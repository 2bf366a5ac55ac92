/- The package-level variables that are laid: none in this seat. -/
import Derived.CallsIn
import Derived.RangeFuncIn
import Derived.Laws.Sem
import Derived.Laws.Entries
import Derived.Laws.StructEq
import Derived.Laws.CopyRow
import Derived.Laws.World
import Derived.Laws.BytesArg
namespace Go.Mu
open Go
def layV (_ : Nat) : Option (Array Value) := none
end Go.Mu
set_option linter.unusedSimpArgs false
set_option linter.unusedVariables false
namespace Go.Mu
open Go

/-- What is known of a list's spare room: nothing; that there is none; that it is the newest version of a list of our own. -/
inductive Tok where
  | no
  | full
  | own (id : Nat)
  deriving DecidableEq

/-- Abstract values: a slice that nobody writes into is its list of elements. -/
inductive AV where
  | bool (b : Bool)
  | int (k : IntKind) (n : Int)
  | str (s : ByteArray)
  | ptr (r off : Nat)
  | nilptr
  | eptr (cs : List AV) (off : Nat)
  | list (t : Tok) (sz : Nat) (xs : List AV)
  | arr (r off len : Nat)
  | vec (r len : Nat)
  | vptr (r m sz i off : Nat)
  | map (r : Nat)
  | nilmap
  | fn (f : Fn) (first cap : List AV)
  | yield (r : Nat)
  | nilfn
  | iface (t : TypeId) (v : AV)
  | niliface
  | agg (cs : List AV)
  | tup (vs : List AV)
  deriving Inhabited

def AV.cells : AV → List AV
  | .agg cs => cs
  | v => [v]

/-- No tuple: a value that cells can hold. -/
def AV.flat : AV → Bool
  | .tup _ => false
  | _ => true

/-- Frames: what is known of slots: those that live on from statement to statement (kp), and those of the statement at hand. -/
structure Fr where
  kp : Nat → Bool
  tm : List (Nat × AV)
  sl : List (Nat × AV)
def lookA : List (Nat × AV) → Nat → Option AV
  | [], _ => none
  | (d, v) :: l, t => if d = t then some v else lookA l t
def ins : List (Nat × AV) → Nat → AV → List (Nat × AV)
  | [], d, v => [(d, v)]
  | (e, u) :: l, d, v => if e = d then (d, v) :: l else (e, u) :: ins l d v
def Fr.get (fr : Fr) (t : Nat) : Option AV := if fr.kp t then lookA fr.sl t else lookA fr.tm t
def Fr.put (fr : Fr) (d : Nat) (v : AV) : Fr := if fr.kp d then ⟨fr.kp, fr.tm, ins fr.sl d v⟩ else ⟨fr.kp, (d, v) :: fr.tm, fr.sl⟩
/-- A new statement. -/
def Fr.anew (fr : Fr) : Fr := ⟨fr.kp, [], fr.sl⟩

theorem lookA_ins (l : List (Nat × AV)) (d t : Nat) (v : AV) : lookA (ins l d v) t = if d = t then some v else lookA l t := by
  induction l with
  | nil => simp [ins, lookA]
  | cons p l ih =>
    obtain ⟨e, u⟩ := p
    simp only [ins]
    by_cases h : e = d
    · subst h
      rw [if_pos rfl]; simp only [lookA]
      by_cases h2 : e = t
      · simp [h2]
      · simp [h2]
    · rw [if_neg h]; simp only [lookA, ih]
      by_cases h2 : e = t
      · subst h2; simp [Ne.symm h]
      · simp [h2]
theorem Fr.get_put (fr : Fr) (d t : Nat) (v : AV) : (fr.put d v).get t = if d = t then some v else fr.get t := by
  by_cases h : fr.kp d
  · by_cases e : d = t
    · subst e; simp [Fr.put, Fr.get, h, lookA_ins]
    · simp only [Fr.put, Fr.get, h, if_true, lookA_ins, if_neg e]
  · by_cases e : d = t
    · subst e; simp [Fr.put, Fr.get, h, lookA]
    · simp only [Fr.put, Fr.get, h, if_false, Bool.false_eq_true]
      by_cases g : fr.kp t
      · simp [g, e]
      · simp [g, lookA, e]
theorem Fr.get_anew {fr : Fr} {t : Nat} {v : AV} (h : fr.anew.get t = some v) : fr.get t = some v := by
  obtain ⟨kp, tm, sl⟩ := fr
  have h' : (if kp t = true then lookA sl t else lookA [] t) = some v := h
  show (if kp t = true then lookA sl t else lookA tm t) = some v
  by_cases g : kp t = true
  · rw [if_pos g] at h' ⊢; exact h'
  · rw [if_neg g] at h'; cases h'

/-- What the model keeps of objects. -/
inductive AObj where
  | cells (cs : List AV)
  | tail (n sz : Nat)
  | vec (sz : Nat) (xs : List AV)
  | map (es : List (AV × AV))
  | iter (m : Option Nat) (n : Nat) (seen : List Nat)
  | siter (s : ByteArray) (pos : Nat)
  | loop (st : LoopState) (pend : Option Code) (fn : FuncId) (params : Array Tmp) (assign body : Code) (N : Nat) (fr : Fr)
  | dead
  deriving Inhabited

structure Kr where
  φ : Nat → Nat
  tl : Nat → Nat → Option (Option Addr × Nat)
  S : Nat → Nat → Option Value

def TokR (K : Kr) (n : Nat) (t : Tok) (len : Nat) (a : Option Addr) (cap : Nat) : Prop :=
  match t with
  | .no => True
  | .full => cap = len
  | .own id => id < n ∧ K.tl id len = some (a, cap)

inductive VR (K : Kr) (n : Nat) : AV → Value → Prop
  | bool (b : Bool) : VR K n (.bool b) (.bool b)
  | int (k : IntKind) (i : Int) : VR K n (.int k i) (.int k i)
  | str (s : ByteArray) : VR K n (.str s) (.string s)
  | ptr (r off : Nat) (h : r < n) : VR K n (.ptr r off) (.pointer (some ⟨K.φ r, off, none⟩))
  | nilptr : VR K n .nilptr (.pointer none)
  | eptr (cs : List AV) (off b o : Nat) (f : Nat → Value) (hS : ∀ j, j < cs.length → K.S b (o + j) = some (f j))
      (h1 : ∀ j, j < cs.length → (f j).oneCell' = true)
      (h : ∀ j (hj : j < cs.length), VR K n (cs[j]) (f j)) : VR K n (.eptr cs off) (.pointer (some ⟨b, o + off, none⟩))
  | list (t : Tok) (sz : Nat) (xs : List AV) (a : Option Addr) (cap : Nat) (f : Nat → Nat → Value) (hl : xs.length ≤ cap) (ht : TokR K n t xs.length a cap)
      (ha : xs ≠ [] → ∃ b o, a = some ⟨b, o, none⟩ ∧ ∀ i j, i < xs.length → j < sz → K.S b (o + (i * sz + j)) = some (f i j))
      (hs : ∀ i (hi : i < xs.length), (xs[i]).cells.length = sz)
      (h1 : ∀ i j, i < xs.length → j < sz → (f i j).oneCell' = true)
      (h : ∀ i j (hi : i < xs.length) (hj : j < (xs[i]).cells.length), VR K n ((xs[i]).cells[j]) (f i j)) : VR K n (.list t sz xs) (.slice a xs.length cap)
  | arr (r off len : Nat) (a : Option Addr) (cap : Nat) (h : r < n) (hl : len ≤ cap) (ha : len = 0 ∨ a = some ⟨K.φ r, off, none⟩) : VR K n (.arr r off len) (.slice a len cap)
  | vec (r len : Nat) (a : Option Addr) (cap : Nat) (h : r < n) (hl : len ≤ cap) (ht : K.tl r len = some (a, cap)) (ha : len = 0 ∨ ∃ b o, a = some ⟨b, o, none⟩) : VR K n (.vec r len) (.slice a len cap)
  | vptr (r m sz i off b o cap : Nat) (h : r < n) (ht : K.tl r m = some (some ⟨b, o, none⟩, cap)) : VR K n (.vptr r m sz i off) (.pointer (some ⟨b, o + (i * sz + off), none⟩))
  | map (r : Nat) (h : r < n) : VR K n (.map r) (.map (some (K.φ r)))
  | nilmap : VR K n .nilmap (.map none)
  | fn (f : Fn) (first cap : List AV) (first' cap' : List Value) (h1 : first.length = first'.length) (h2 : cap.length = cap'.length)
      (g1 : ∀ i (h : i < first.length) (h' : i < first'.length), VR K n (first[i]) (first'[i]))
      (g2 : ∀ i (h : i < cap.length) (h' : i < cap'.length), VR K n (cap[i]) (cap'[i])) : VR K n (.fn f first cap) (.func f first'.toArray cap'.toArray)
  | yield (r : Nat) (h : r < n) : VR K n (.yield r) (.func (.yield (K.φ r)) #[] #[])
  | nilfn : VR K n .nilfn .nilFunc
  | iface (t : TypeId) (v : AV) (c : Value) (h : VR K n v c) : VR K n (.iface t v) (.iface t c)
  | niliface : VR K n .niliface .nilIface
  | agg (cs : List AV) (cs' : List Value) (hl : cs.length = cs'.length) (h1 : ∀ c ∈ cs', c.oneCell' = true) (h : ∀ i (h : i < cs.length) (h' : i < cs'.length), VR K n (cs[i]) (cs'[i])) : VR K n (.agg cs) (.agg cs'.toArray)
  | tup (cs : List AV) (cs' : List Value) (hl : cs.length = cs'.length) (h : ∀ i (h : i < cs.length) (h' : i < cs'.length), VR K n (cs[i]) (cs'[i])) : VR K n (.tup cs) (.tuple cs'.toArray)

def VRs (K : Kr) (n : Nat) (l : List AV) (l' : List Value) : Prop :=
  l.length = l'.length ∧ ∀ i (h : i < l.length) (h' : i < l'.length), VR K n (l[i]) (l'[i])

structure Ext (n : Nat) (K K' : Kr) : Prop where
  φ : ∀ r, r < n → K'.φ r = K.φ r
  tl : ∀ r, r < n → ∀ m x, K.tl r m = some x → K'.tl r m = some x
  S : ∀ b o v, K.S b o = some v → K'.S b o = some v

theorem Ext.refl (n : Nat) (K : Kr) : Ext n K K := ⟨fun _ _ => rfl, fun _ _ _ _ h => h, fun _ _ _ h => h⟩
theorem Ext.trans {n n' : Nat} {K K' K'' : Kr} (h : Ext n K K') (h' : Ext n' K' K'') (hn : n ≤ n') : Ext n K K'' :=
  ⟨fun r hr => (h'.φ r (by omega)).trans (h.φ r hr), fun r hr m x hx => h'.tl r (by omega) m x (h.tl r hr m x hx), fun b o v hv => h'.S b o v (h.S b o v hv)⟩

theorem TokR.mono {n n' : Nat} {K K' : Kr} {t : Tok} {len : Nat} {a : Option Addr} {cap : Nat} (h : TokR K n t len a cap) (he : Ext n K K') (hn : n ≤ n') : TokR K' n' t len a cap := by
  cases t with
  | no => trivial
  | full => exact h
  | own id => exact ⟨by have := h.1; omega, he.tl id h.1 _ _ h.2⟩

theorem VR.mono {n n' : Nat} {K K' : Kr} {v : AV} {c : Value} (h : VR K n v c) (he : Ext n K K') (hn : n ≤ n') : VR K' n' v c := by
  induction h with
  | bool b => exact .bool b
  | int k i => exact .int k i
  | str s => exact .str s
  | ptr r off h => rw [← he.φ r h]; exact .ptr r off (by omega)
  | nilptr => exact .nilptr
  | eptr cs off b o f hS h1 _ ih => exact .eptr cs off b o f (fun j hj => he.S _ _ _ (hS j hj)) h1 ih
  | list t sz xs a cap f hl ht ha hs h1 _ ih =>
    exact .list t sz xs a cap f hl (ht.mono he hn) (fun hx => by
      obtain ⟨b, o, h1, h2⟩ := ha hx
      exact ⟨b, o, h1, fun i j hi hj => he.S _ _ _ (h2 i j hi hj)⟩) hs h1 ih
  | arr r off len a cap h hl ha => exact .arr r off len a cap (by omega) hl (by rw [he.φ r h]; exact ha)
  | vec r len a cap h hl ht ha => exact .vec r len a cap (by omega) hl (he.tl r h _ _ ht) ha
  | vptr r m sz i off b o cap h ht => exact .vptr r m sz i off b o cap (by omega) (he.tl r h _ _ ht)
  | map r h => rw [← he.φ r h]; exact .map r (by omega)
  | nilmap => exact .nilmap
  | fn f first cap first' cap' h1 h2 _ _ i1 i2 => exact .fn f first cap first' cap' h1 h2 i1 i2
  | yield r h => rw [← he.φ r h]; exact .yield r (by omega)
  | nilfn => exact .nilfn
  | iface t v c _ ih => exact .iface t v c ih
  | niliface => exact .niliface
  | agg cs cs' hl h1 _ ih => exact .agg cs cs' hl h1 ih
  | tup cs cs' hl _ ih => exact .tup cs cs' hl ih

theorem VRs.mono {n n' : Nat} {K K' : Kr} {l : List AV} {l' : List Value} (h : VRs K n l l') (he : Ext n K K') (hn : n ≤ n') : VRs K' n' l l' :=
  ⟨h.1, fun i h1 h2 => (h.2 i h1 h2).mono he hn⟩

def FR (K : Kr) (n N : Nat) (fr : Fr) (tmps : Array Value) : Prop :=
  tmps.size = N ∧ ∀ t v, Fr.get fr t = some v → ∃ c, tmps[t]? = some c ∧ VR K n v c

theorem FR.mono {n n' N : Nat} {K K' : Kr} {fr : Fr} {tmps : Array Value} (h : FR K n N fr tmps) (he : Ext n K K') (hn : n ≤ n') : FR K' n' N fr tmps :=
  ⟨h.1, fun t v hv => let ⟨c, h1, h2⟩ := h.2 t v hv; ⟨c, h1, h2.mono he hn⟩⟩

theorem FR.put {n N : Nat} {K : Kr} {fr : Fr} {a : Act} {d : Nat} {v : AV} {c : Value} (h : FR K n N fr a.tmps) (hd : d < N) (hv : VR K n v c) : FR K n N (fr.put d v) (a.put (some d) c).tmps := by
  refine ⟨by simp [Act.put, h.1], fun t u hu => ?_⟩
  rw [Fr.get_put] at hu
  by_cases e : d = t
  · subst e
    simp at hu; subst hu
    exact ⟨c, by simp [Act.put, h.1, hd], hv⟩
  · rw [if_neg e] at hu
    obtain ⟨c', h1, h2⟩ := h.2 t u hu
    exact ⟨c', by simp [Act.put, Array.getElem?_setIfInBounds_ne e, h1], h2⟩

/-- Fewer slots known. -/
theorem FR.sub {n N : Nat} {K : Kr} {fr fr' : Fr} {tmps : Array Value} (h : FR K n N fr tmps) (hs : ∀ t v, Fr.get fr' t = some v → Fr.get fr t = some v) : FR K n N fr' tmps :=
  ⟨h.1, fun t v hv => h.2 t v (hs t v hv)⟩

/-- The block that a live object takes. -/
def ObjBlk (K : Kr) (r : Nat) : AObj → Nat → Prop
  | .cells _, b => b = K.φ r
  | .map _, b => b = K.φ r
  | .iter _ _ _, b => b = K.φ r
  | .siter _ _, b => b = K.φ r
  | .loop _ _ _ _ _ _ _ _, b => b = K.φ r
  | .tail m _, b => ∃ a cap, K.tl r m = some (some a, cap) ∧ m < cap ∧ a.block = b
  | .vec _ xs, b => ∃ a cap, K.tl r xs.length = some (some a, cap) ∧ 0 < cap ∧ a.block = b
  | .dead, _ => False

/-- Entries of a map: in the order in which they came; each is born at its place. -/
def EntR (K : Kr) (n : Nat) (es : List (AV × AV)) (es' : Array MapEntry) (clock : Nat) : Prop :=
  es.length = es'.size ∧ clock = es'.size ∧ ∀ i (h : i < es.length) (h' : i < es'.size), VR K n (es[i]).1 (es'[i]).key ∧ VR K n (es[i]).2 (es'[i]).val ∧ (es'[i]).born = i

def ObjR (K : Kr) (n : Nat) (w : World) (r : Nat) : AObj → Prop
  | .cells cs => ∃ cc E, w.heap[K.φ r]? = some (.cells cc E (0, 0)) ∧ VRs K n cs cc.toList ∧ (∀ c ∈ cc.toList, c.oneCell' = true) ∧ ∀ o, K.S (K.φ r) o = none
  | .tail m sz => ∃ a cap, K.tl r m = some (a, cap) ∧ m ≤ cap ∧ (∀ k, m < k → K.tl r k = none) ∧
      (m < cap → ∃ b o cc E, a = some ⟨b, o, none⟩ ∧ w.heap[b]? = some (.cells cc E (0, 0)) ∧ o + cap * sz ≤ cc.size ∧ ∀ p, o + m * sz ≤ p → K.S b p = none)
  | .map es => ∃ es' clock, w.heap[K.φ r]? = some (.map es' clock) ∧ EntR K n es es' clock
  | .iter m c seen => ∃ m' , w.heap[K.φ r]? = some (.mapIter m' c seen.toArray c) ∧
      (match m with | none => m' = none | some q => q < n ∧ m' = some (K.φ q))
  | .siter s pos => w.heap[K.φ r]? = some (.stringIter s pos)
  | .loop st pend fn params assign body N fr => ∃ l : Loop, w.heap[K.φ r]? = some (.loop l) ∧ l.state = st ∧ l.pending = pend ∧ l.fn = fn ∧ l.params = params ∧ l.assign = assign ∧ l.body = body ∧ FR K n N fr l.tmps
  | .vec sz xs => ∃ a cap, K.tl r xs.length = some (a, cap) ∧ xs.length ≤ cap ∧ (∀ k, xs.length < k → K.tl r k = none) ∧ (∀ i (h : i < xs.length), (xs[i]).cells.length = sz) ∧
      (0 < cap → ∃ b o cc E, a = some ⟨b, o, none⟩ ∧ w.heap[b]? = some (.cells cc E (0, 0)) ∧ o + cap * sz ≤ cc.size ∧
        VRs K n (xs.flatMap AV.cells) ((cc.toList.drop o).take (xs.length * sz)) ∧ (∀ c ∈ cc.toList, c.oneCell' = true) ∧ ∀ p, K.S b p = none)
  | .dead => True

/-- A block of no live object. -/
def Free (K : Kr) (σ : List AObj) (b : Nat) : Prop := ∀ r o, σ[r]? = some o → ¬ ObjBlk K r o b

structure R (K : Kr) (σ : List AObj) (w : World) : Prop where
  stab : ∀ b o v, K.S b o = some v → w.cell? ⟨b, o, none⟩ = some v
  obj : ∀ r o, σ[r]? = some o → ObjR K σ.length w r o
  inj : ∀ r r' o o' b, σ[r]? = some o → σ[r']? = some o' → ObjBlk K r o b → ObjBlk K r' o' b → r = r'
  lay : ∀ g cs, layV g = some cs → (∃ E fz, w.heap[g]? = some (.cells cs E fz)) ∧ Free K σ g

/-- The range of a block that cannot be written. -/
def frz : Option Obj → Nat × Nat
  | some (.cells _ _ r) => r
  | _ => (0, 0)
structure Step (K : Kr) (σ : List AObj) (w : World) (K' : Kr) (σ' : List AObj) (w' : World) : Prop where
  ext : Ext σ.length K K'
  len : σ.length ≤ σ'.length
  size : w.heap.size ≤ w'.heap.size
  keep : ∀ b, b < w.heap.size → Free K σ b → w'.heap[b]? = w.heap[b]? ∧ Free K' σ' b ∧ ∀ o, K'.S b o = K.S b o
  os : w'.os = w.os
  tape : w'.tape = w.tape
  output : w'.output = w.output
  froz : ∀ b : Nat, b < w.heap.size → frz w'.heap[b]? = frz w.heap[b]?

theorem Step.refl (K : Kr) (σ : List AObj) (w : World) : Step K σ w K σ w :=
  ⟨.refl _ _, Nat.le_refl _, Nat.le_refl _, fun b _ hf => ⟨rfl, hf, fun _ => rfl⟩, rfl, rfl, rfl, fun _ _ => rfl⟩

theorem Step.trans {K K' K'' : Kr} {σ σ' σ'' : List AObj} {w w' w'' : World} (h : Step K σ w K' σ' w') (h' : Step K' σ' w' K'' σ'' w'') : Step K σ w K'' σ'' w'' :=
  ⟨h.ext.trans h'.ext h.len, Nat.le_trans h.len h'.len, Nat.le_trans h.size h'.size, fun b hb hf => by
    obtain ⟨h1, h2, h3⟩ := h.keep b hb hf
    obtain ⟨g1, g2, g3⟩ := h'.keep b (Nat.lt_of_lt_of_le hb h.size) h2
    exact ⟨g1.trans h1, g2, fun o => (g3 o).trans (h3 o)⟩, h'.os.trans h.os, h'.tape.trans h.tape, h'.output.trans h.output, fun b hb => (h'.froz b (Nat.lt_of_lt_of_le hb h.size)).trans (h.froz b hb)⟩

/-- A draw turns nothing. -/
theorem R.drew {K : Kr} {σ : List AObj} {w : World} (h : R K σ w) (d : Nat) : R K σ { w with drawn := d } :=
  ⟨fun b o v hv => h.stab b o v hv, fun r o ho => by have := h.obj r o ho; cases o <;> exact this, h.inj, h.lay⟩
/-- The laid variables lie on. -/
theorem R.layS {K K' : Kr} {σ σ' : List AObj} {w w' : World} (h : R K σ w) (hs : Step K σ w K' σ' w') : ∀ g cs, layV g = some cs → (∃ E fz, w'.heap[g]? = some (.cells cs E fz)) ∧ Free K' σ' g := fun g cs hg => by
  obtain ⟨⟨E, fz, h1⟩, h2⟩ := h.lay g cs hg
  obtain ⟨k1, k2, _⟩ := hs.keep g (Array.getElem?_eq_some_iff.1 h1).1 h2
  exact ⟨⟨E, fz, by rw [k1]; exact h1⟩, k2⟩
theorem andS {A B : Prop} (f : B → A) (b : B) : A ∧ B := ⟨f b, b⟩
theorem Step.drew {K K' : Kr} {σ σ' : List AObj} {w w' : World} (d : Nat) (h : Step K σ { w with drawn := d } K' σ' w') : Step K σ w K' σ' w' :=
  ⟨h.ext, h.len, h.size, h.keep, h.os, h.tape, h.output, h.froz⟩

/-- A function that has a body. -/
def Callable (P : Program) (f : FuncId) : Prop := ∀ args w, (callFunc f args).run P w = .ok (.enter f args) w

/-- A call of a Go function, on abstract values: it returns, and Q holds of the result and the objects. -/
def ACalls (P : Program) (f : FuncId) (args : List AV) (σ : List AObj) (Q : AV → List AObj → Prop) : Prop :=
  Callable P f ∧ ∀ (K : Kr) (w : World) (cargs : Array Value), R K σ w → VRs K σ.length args cargs.toList →
    Calls P f cargs w fun e w' => ∃ v c σ' K', e = .returned c ∧ Q v σ' ∧ VR K' σ'.length v c ∧ R K' σ' w' ∧ Step K σ w K' σ' w'

theorem ACalls.mono {P : Program} {f : FuncId} {args : List AV} {σ : List AObj} {Q Q' : AV → List AObj → Prop} (h : ACalls P f args σ Q) (hq : ∀ v σ', Q v σ' → Q' v σ') : ACalls P f args σ Q' :=
  ⟨h.1, fun K w cargs hR hA => (h.2 K w cargs hR hA).mono fun e w' ⟨v, c, σ', K', h1, h2, h3⟩ => ⟨v, c, σ', K', h1, hq _ _ h2, h3⟩⟩

/-- A call that computes alone. -/
def PureV (P : Program) (f : FuncId) (args : List AV) (v : AV) : Prop := ∀ (σ : List AObj) (Q : AV → List AObj → Prop), Q v σ → ACalls P f args σ Q

end Go.Mu
set_option linter.unusedSimpArgs false
set_option linter.unusedVariables false
namespace Go.Mu
open Go

inductive TK where
  | int (k : IntKind)
  | bool
  | str
  | strct (fs : List (Nat × Nat))
  | arr (n e : Nat)
  | slice (e : Nat)
  | map (k e : Nat)
  | ptr (e : Nat)
  | func
  | iface
  | other
  deriving DecidableEq, Inhabited

structure TI where
  sz : Nat
  bytes : Nat
  kd : TK
  zero : AV
  eqn : Bool := false
  vc : Bool := false
  keyn : Bool := false
  deriving Inhabited
/-- What is appended to the type's empty literals is a slice that is written into. -/
def TI.v (i : TI) : TI := { i with vc := true }

def TK.agg : TK → Option Bool
  | .strct _ => some true
  | .arr _ _ => some true
  | .other => none
  | _ => some false

/-- A constant of the program's text. -/
def ofVal1 : Value → Option AV
  | .bool b => some (.bool b)
  | .int k n => some (.int k n)
  | .string s => some (.str s)
  | .pointer none => some .nilptr
  | .slice none 0 0 => some (.list .full 0 [])
  | .map none => some .nilmap
  | .nilFunc => some .nilfn
  | .nilIface => some .niliface
  | _ => none

def ofVals : List Value → Option (List AV)
  | [] => some []
  | c :: cs => match ofVal1 c, ofVals cs with
    | some v, some vs => some (v :: vs)
    | _, _ => none

def ofVal : Value → Option AV
  | .agg cs => (ofVals cs.toList).map .agg
  | .tuple cs => (ofVals cs.toList).map .tup
  | v => ofVal1 v

def KdOK (d : TypeDesc) : TK → Prop
  | .int k => d = .int k
  | .bool => d = .bool
  | .str => d = .string
  | .strct fs => ∃ fields, d = .struct fields ∧ fs = fields.toList.map fun f => (f.offset, f.type)
  | .arr n e => d = .array n e
  | .slice e => d = .slice e
  | .map k e => d = .map k e
  | .ptr e => d = .pointer e
  | .func => ∃ a b c, d = .func a b c
  | .iface => ∃ m, d = .interface m
  | .other => True

structure TyOK (P : Program) (t : TypeId) (i : TI) : Prop where
  info : ∃ ti, P.info? t = some ti ∧ ti.size = i.sz ∧ ti.bytes = i.bytes ∧ (∃ z, ti.zero = some z ∧ ofVal z = some i.zero) ∧ i.zero.flat = true
  kd : ∃ d, P.underlying t = some d ∧ KdOK d i.kd

def aeval (fr : Fr) : Operand → Option AV
  | .tmp t => Fr.get fr t
  | .const v => ofVal v
  | .func f => some (.fn (.func f) [] [])
  | .global _ => none

def aevals (fr : Fr) : List Operand → Option (List AV)
  | [] => some []
  | x :: xs => match aeval fr x, aevals fr xs with
    | some v, some vs => some (v :: vs)
    | _, _ => none

/-- A value made of other cells. -/
def ofCells : AV → List AV → AV
  | .agg _, cs => .agg cs
  | _, [c] => c
  | v, _ => v

/-- The cells of a part. -/
def subAt (off sz : Nat) (cs : List AV) : Option Bool → Option AV
  | some true => if off + sz ≤ cs.length then some (.agg ((cs.drop off).take sz)) else none
  | some false => cs[off]?
  | none => none

def putAt (off : Nat) (new : List AV) (cs : List AV) : List AV := cs.take off ++ new ++ cs.drop (off + new.length)

def idx (xs : List AV) (i : Int) : Option AV := if 0 ≤ i then xs[i.toNat]? else none

/-- Parts laid into cells. -/
def fillA (place : Nat → Option (Nat × Nat)) (cs : List AV) : List (Nat × AV) → Option (List AV)
  | [] => some cs
  | (i, v) :: rest => match place i with
    | none => none
    | some (off, size) => if v.flat = true ∧ v.cells.length = size ∧ off + size ≤ cs.length then fillA place (putAt off v.cells cs) rest else none

def apart (fr : Fr) : List (Nat × Operand) → Option (List (Nat × AV))
  | [] => some []
  | (i, x) :: xs => match aeval fr x, apart fr xs with
    | some v, some vs => some ((i, v) :: vs)
    | _, _ => none

/-- Elements of a slice literal, in order, all of them given. -/
def litA (sz : Nat) : Nat → List (Nat × AV) → Option (List AV)
  | _, [] => some []
  | k, (i, v) :: rest => if i = k ∧ v.flat = true ∧ v.cells.length = sz then (litA sz (k + 1) rest).map (v :: ·) else none

def binA (op : BinOp) (eqn : Bool) : AV → AV → Option AV
  | .int k a, .int k' b =>
    match op with
    | .shl => if 0 ≤ b then some (.int k (k.wrap (a * 2 ^ (min b.toNat k.bits)))) else none
    | .shr => if 0 ≤ b then some (.int k (a.fdiv (2 ^ (min b.toNat k.bits)))) else none
    | _ => if k = k' then match op with
      | .add => some (.int k (k.wrap (a + b)))
      | .sub => some (.int k (k.wrap (a - b)))
      | .mul => some (.int k (k.wrap (a * b)))
      | .quo => if b = 0 then none else some (.int k (k.wrap (a.tdiv b)))
      | .rem => if b = 0 then none else some (.int k (a.tmod b))
      | .and => some (.int k (k.wrap (BitVec.ofInt k.bits a &&& BitVec.ofInt k.bits b).toNat))
      | .or => some (.int k (k.wrap (BitVec.ofInt k.bits a ||| BitVec.ofInt k.bits b).toNat))
      | .xor => some (.int k (k.wrap (BitVec.ofInt k.bits a ^^^ BitVec.ofInt k.bits b).toNat))
      | .andNot => some (.int k (k.wrap (BitVec.ofInt k.bits a &&& ~~~ BitVec.ofInt k.bits b).toNat))
      | .eql => some (.bool (a == b))
      | .neq => some (.bool (a != b))
      | .lss => some (.bool (a < b))
      | .leq => some (.bool (a ≤ b))
      | .gtr => some (.bool (a > b))
      | .geq => some (.bool (a ≥ b))
      | _ => none
      else none
  | _, _ => none

/-- Integers out of cells. -/
def intsA : List AV → Option (List Int)
  | [] => some []
  | .int .i64 n :: cs => (intsA cs).map (n :: ·)
  | _ => none

def lenA : TK → AV → Option Nat
  | .slice _, .list _ _ xs => some xs.length
  | .slice _, .arr _ _ n => some n
  | .slice _, .vec _ n => some n
  | .str, .str s => some s.size
  | _, _ => none

def maxL (k : IntKind) (a : Int) : List AV → Option AV
  | [] => some (.int k a)
  | .int _ b :: r => maxL k (if b > a then b else a) r
  | _ => none
def minL (k : IntKind) (a : Int) : List AV → Option AV
  | [] => some (.int k a)
  | .int _ b :: r => minL k (if b < a then b else a) r
  | _ => none
def maxA : List AV → Option AV
  | .int k a :: r => maxL k a r
  | _ => none
def minA : List AV → Option AV
  | .int k a :: r => minL k a r
  | _ => none

/-- An operation that looks at its operands alone. -/
def pop (ty : Nat → TI) (fr : Fr) (type : TypeId) : Op → Option AV
  | .move x => aeval fr x
  | .assign x => aeval fr x
  | .pick c a b => match aeval fr c, aeval fr a, aeval fr b with
    | some (.bool cb), some va, some vb => some (if cb then va else vb)
    | _, _, _ => none
  | .build t parts => match apart fr parts.toList, (ty t).kd with
    | some ps, .strct fs => if fs.all (fun p => (ty p.2).kd.agg.isSome) then (fillA (fun i => (fs[i]?).map fun p => (p.1, (ty p.2).sz)) (ty t).zero.cells ps).map .agg else none
    | some ps, .arr _ e => if (ty e).kd.agg.isSome then (fillA (fun i => some (i * (ty e).sz, (ty e).sz)) (ty t).zero.cells ps).map .agg else none
    | _, _ => none
  | .fieldAddr t x f => match (ty t).kd, aeval fr x with
    | .strct fs, some (.ptr r off) => match fs[f]? with
      | some p => if (ty p.2).kd.agg = none ∨ (ty p.2).sz = 0 then none else some (.ptr r (off + p.1))
      | none => none
    | .strct fs, some (.eptr cs off) => match fs[f]? with
      | some p => if (ty p.2).kd.agg = none ∨ (ty p.2).sz = 0 then none else some (.eptr cs (off + p.1))
      | none => none
    | .strct fs, some (.vptr r m sz i off) => match fs[f]? with
      | some p => if (ty p.2).kd.agg = none ∨ (ty p.2).sz = 0 then none else some (.vptr r m sz i (off + p.1))
      | none => none
    | _, _ => none
  | .field t x f => match (ty t).kd, aeval fr x with
    | .strct fs, some (.agg cs) => match fs[f]? with
      | some p => subAt p.1 (ty p.2).sz cs (ty p.2).kd.agg
      | none => none
    | _, _ => none
  | .index t x i => match (ty t).kd, aeval fr x, aeval fr i with
    | .arr n e, some (.agg cs), some (.int _ i) => if 0 ≤ i ∧ i < n then subAt (i.toNat * (ty e).sz) (ty e).sz cs (ty e).kd.agg else none
    | .str, some (.str s), some (.int _ i) => if 0 ≤ i then (s[i.toNat]?).map fun b => .int .u8 b.toNat else none
    | _, _, _ => none
  | .indexAddr t x i => match (ty t).kd, aeval fr x, aeval fr i with
    | .slice e, some (.list _ sz xs), some (.int _ i) => if sz = (ty e).sz ∧ (ty e).kd.agg.isSome then (idx xs i).map fun x => .eptr x.cells 0 else none
    | .slice e, some (.arr r off len), some (.int _ i) => if 0 ≤ i ∧ i < len ∧ (ty e).kd.agg.isSome then some (.ptr r (off + i.toNat * (ty e).sz)) else none
    | .slice e, some (.vec r len), some (.int _ i) => if 0 ≤ i ∧ i < len ∧ (ty e).kd.agg.isSome then some (.vptr r len (ty e).sz i.toNat 0) else none
    | .arr n e, some (.vptr r m sz k off), some (.int _ i) => if 0 ≤ i ∧ i < n ∧ 1 < n ∧ (ty e).kd.agg.isSome then some (.vptr r m sz k (off + i.toNat * (ty e).sz)) else none
    | .arr n e, some (.ptr r off), some (.int _ i) => if 0 ≤ i ∧ i < n ∧ 1 < n ∧ (ty e).kd.agg.isSome then some (.ptr r (off + i.toNat * (ty e).sz)) else none
    | .arr n e, some (.eptr cs off), some (.int _ i) => if 0 ≤ i ∧ i < n ∧ 1 < n ∧ (ty e).kd.agg.isSome then some (.eptr cs (off + i.toNat * (ty e).sz)) else none
    | _, _, _ => none
  | .nilCheck x => match aeval fr x with
    | some (.ptr r off) => some (.ptr r off)
    | some (.eptr cs off) => some (.eptr cs off)
    | some (.vptr r m sz i off) => some (.vptr r m sz i off)
    | some (.fn (.func f) a b) => some (.fn (.func f) a b)
    | _ => none
  | .binOp op t x y _ => match aeval fr x, aeval fr y with
    | some (.int k a), some (.int k' b) => binA op (ty t).eqn (.int k a) (.int k' b)
    | some (.agg a), some (.agg b) => if (ty t).eqn then match intsA a, intsA b, op with
      | some xs, some ys, .eql => if xs.length = (ty t).sz ∧ ys.length = (ty t).sz then some (.bool (xs == ys)) else none
      | some xs, some ys, .neq => if xs.length = (ty t).sz ∧ ys.length = (ty t).sz then some (.bool (xs != ys)) else none
      | _, _, _ => none
      else none
    | some (.bool a), some (.bool b) => match op, (ty t).kd with
      | .eql, .bool => some (.bool (a == b))
      | .neq, .bool => some (.bool (a != b))
      | _, _ => none
    | some (.str a), some (.str b) => match op with
      | .eql => some (.bool (a.toList == b.toList))
      | .neq => some (.bool (!(a.toList == b.toList)))
      | .add => if a.size + b.size ≤ 9223372036854775807 then some (.str (a ++ b)) else none
      | _ => none
    | _, _ => none
  | .unOp op _ x => match op, aeval fr x with
    | .not, some (.bool b) => some (.bool (!b))
    | .neg, some (.int k n) => some (.int k (k.wrap (0 - n)))
    | _, _ => none
  | .convert s d x => match (ty s).kd, (ty d).kd, aeval fr x with
    | .int _, .int k, some (.int _ n) => some (.int k (k.wrap n))
    | _, _, _ => none
  | .makeInterface t x => match (ty t).kd, aeval fr x with
    | .iface, _ => none
    | .other, _ => none
    | _, some v => some (.iface t v)
    | _, _ => none
  | .makeFunc f a b => match aevals fr a.toList, aevals fr b.toList with
    | some a, some b => some (.fn f a b)
    | _, _ => none
  | .extract x i => match aeval fr x with
    | some (.tup vs) => vs[i]?
    | _ => none
  | .typeAssert x _ t ok => match (ty t).kd, aeval fr x with
    | .iface, _ => none
    | .other, _ => none
    | _, some (.iface u v) => if ok then (if (ty t).zero.flat then some (if u = t then .tup [v, .bool true] else (.tup [(ty t).zero, .bool false])) else none) else (if u = t then some v else none)
    | _, _ => none
  | .slice t x lo hi mx => match mx, (ty t).kd, aeval fr x with
    | none, .slice e, some (.list tk sz xs) =>
      match (match hi with | none => some (xs.length : Int) | some h => match aeval fr h with | some (.int _ h) => some h | _ => none),
            (match lo with | none => some (0 : Int) | some l => match aeval fr l with | some (.int _ l) => some l | _ => none) with
      | some h, some l => if sz = (ty e).sz ∧ (ty e).kd.agg.isSome ∧ 0 ≤ l ∧ l ≤ h ∧ h ≤ xs.length then some (.list .no sz ((xs.take h.toNat).drop l.toNat)) else none
      | _, _ => none
    | none, .arr n e, some (.ptr r off) => if lo = none ∧ hi = none ∧ (ty e).kd.agg.isSome then some (.arr r off n) else none
    | none, .str, some (.str s) =>
      match (match hi with | none => some (s.size : Int) | some h => match aeval fr h with | some (.int _ h) => some h | _ => none),
            (match lo with | none => some (0 : Int) | some l => match aeval fr l with | some (.int _ l) => some l | _ => none) with
      | some h, some l => if 0 ≤ l ∧ l ≤ h ∧ h ≤ s.size then some (.str (s.extract l.toNat h.toNat)) else none
      | _, _ => none
    | _, _, _ => none
  | .call { callee := .builtin b, args, argTypes } => match b, aevals fr args.toList with
    | .len, some [v] => match argTypes[0]? with
      | some t => (lenA (ty t).kd v).map fun n => .int .i64 n
      | none => none
    | .max, some vs => maxA vs
    | .min, some vs => minA vs
    | _, _ => none
  | _ => none

/-- An element that is itself a list bears no mark. -/
def canonE (z : Nat) : AV → AV
  | .list t sz xs => if sz = z ∨ xs = [] then .list .no z xs else .list t sz xs
  | v => v
def canonL : Option Nat → List AV → List AV
  | none, xs => xs
  | some z, xs => xs.map (canonE z)
def elSz : TK → Option Nat
  | .slice e => some e
  | _ => none
/-- A slice literal: a list that has no spare room. -/
def litOp (ty : Nat → TI) (fr : Fr) : Op → Option AV
  | .buildSlice t len parts => match apart fr parts.toList, (ty t).kd with
    | some ps, .slice e => if (ty e).kd.agg.isSome ∧ ps.length = len ∧ len * (ty e).sz ≤ 16777216 ∧ 0 < (ty e).sz ∧ (ty e).zero.cells.length = (ty e).sz then (litA (ty e).sz 0 ps).map (fun xs => .list .full (ty e).sz (canonL ((elSz (ty e).kd).map fun e' => (ty e').sz) xs)) else none
    | _, _ => none
  | _ => none

end Go.Mu
set_option linter.unusedSimpArgs false
set_option linter.unusedVariables false
namespace Go.Mu
open Go

variable {P : Program} {K : Kr} {n N : Nat} {ty : Nat → TI}

theorem VRs.nil : VRs K n [] [] := ⟨rfl, fun i h => by simp at h⟩
theorem VRs.cons {v : AV} {c : Value} {l : List AV} {l' : List Value} (h : VR K n v c) (hl : VRs K n l l') : VRs K n (v :: l) (c :: l') :=
  ⟨by simp [hl.1], fun i h1 h2 => by
    cases i with
    | zero => exact h
    | succ i => exact hl.2 i (by simpa using h1) (by simpa using h2)⟩
theorem VRs.head {v : AV} {c : Value} {l : List AV} {l' : List Value} (h : VRs K n (v :: l) (c :: l')) : VR K n v c := h.2 0 (by simp) (by simp)
theorem VRs.tail {v : AV} {c : Value} {l : List AV} {l' : List Value} (h : VRs K n (v :: l) (c :: l')) : VRs K n l l' :=
  ⟨by simpa using h.1, fun i h1 h2 => by have := h.2 (i + 1) (by simpa using h1) (by simpa using h2); simpa using this⟩
theorem VRs.get {l : List AV} {l' : List Value} {i : Nat} {v : AV} (h : VRs K n l l') (hv : l[i]? = some v) : ∃ c, l'[i]? = some c ∧ VR K n v c := by
  obtain ⟨hlt, rfl⟩ := List.getElem?_eq_some_iff.1 hv
  have h2 : i < l'.length := by rw [← h.1]; exact hlt
  exact ⟨l'[i], List.getElem?_eq_getElem h2, h.2 i hlt h2⟩
theorem VRs.append {l m : List AV} {l' m' : List Value} (h : VRs K n l l') (h' : VRs K n m m') : VRs K n (l ++ m) (l' ++ m') := by
  refine ⟨by simp [h.1, h'.1], fun i h1 h2 => ?_⟩
  by_cases hi : i < l.length
  · rw [List.getElem_append_left hi, List.getElem_append_left (by rw [← h.1]; exact hi)]
    exact h.2 i hi _
  · rw [List.getElem_append_right (by omega), List.getElem_append_right (by rw [← h.1]; omega)]
    have := h'.2 (i - l.length) (by simp at h1; omega) (by simp at h2; rw [← h.1] at h2; omega)
    simpa [h.1] using this
theorem VRs.take {l : List AV} {l' : List Value} (h : VRs K n l l') (k : Nat) : VRs K n (l.take k) (l'.take k) :=
  ⟨by simp [h.1], fun i h1 h2 => by simpa using h.2 i (by simp at h1; omega) (by simp at h2; omega)⟩
theorem VRs.drop {l : List AV} {l' : List Value} (h : VRs K n l l') (k : Nat) : VRs K n (l.drop k) (l'.drop k) :=
  ⟨by simp [h.1], fun i h1 h2 => by simpa using h.2 (k + i) (by simp at h1; omega) (by simp at h2; omega)⟩
theorem VRs.set {l : List AV} {l' : List Value} (h : VRs K n l l') (k : Nat) {v : AV} {c : Value} (hv : VR K n v c) : VRs K n (l.set k v) (l'.set k c) :=
  ⟨by simp [h.1], fun i h1 h2 => by
    rw [List.getElem_set, List.getElem_set]
    by_cases e : k = i
    · simp [e, hv]
    · simp only [e, if_false]; exact h.2 i (by simpa using h1) (by simpa using h2)⟩

theorem VR.cells {v : AV} {c : Value} (h : VR K n v c) (hf : v.flat = true) : VRs K n v.cells c.cells.toList ∧ ∀ x ∈ c.cells.toList, x.oneCell' = true := by
  cases h with
  | agg cs cs' hl h1 h => exact ⟨⟨by simpa [AV.cells, Value.cells] using hl, by simpa [AV.cells, Value.cells] using h⟩, by simpa [Value.cells] using h1⟩
  | tup => simp [AV.flat] at hf
  | bool b => exact ⟨.cons (.bool b) .nil, by simp [Value.cells, Value.oneCell']⟩
  | int k i => exact ⟨.cons (.int k i) .nil, by simp [Value.cells, Value.oneCell']⟩
  | str s => exact ⟨.cons (.str s) .nil, by simp [Value.cells, Value.oneCell']⟩
  | ptr r off h => exact ⟨.cons (.ptr r off h) .nil, by simp [Value.cells, Value.oneCell']⟩
  | nilptr => exact ⟨.cons .nilptr .nil, by simp [Value.cells, Value.oneCell']⟩
  | eptr cs off b o f hS h1 h => exact ⟨.cons (.eptr cs off b o f hS h1 h) .nil, by simp [Value.cells, Value.oneCell']⟩
  | list t sz xs a cap f hl ht ha hs h1 h => exact ⟨.cons (.list t sz xs a cap f hl ht ha hs h1 h) .nil, by simp [Value.cells, Value.oneCell']⟩
  | arr r off len a cap h hl ha => exact ⟨.cons (.arr r off len a cap h hl ha) .nil, by simp [Value.cells, Value.oneCell']⟩
  | vec r len a cap h hl ht ha => exact ⟨.cons (.vec r len a cap h hl ht ha) .nil, by simp [Value.cells, Value.oneCell']⟩
  | vptr r m sz i off b o cap h ht => exact ⟨.cons (.vptr r m sz i off b o cap h ht) .nil, by simp [Value.cells, Value.oneCell']⟩
  | map r h => exact ⟨.cons (.map r h) .nil, by simp [Value.cells, Value.oneCell']⟩
  | nilmap => exact ⟨.cons .nilmap .nil, by simp [Value.cells, Value.oneCell']⟩
  | fn f first cap first' cap' h1 h2 g1 g2 => exact ⟨.cons (.fn f first cap first' cap' h1 h2 g1 g2) .nil, by simp [Value.cells, Value.oneCell']⟩
  | yield r h => exact ⟨.cons (.yield r h) .nil, by simp [Value.cells, Value.oneCell']⟩
  | nilfn => exact ⟨.cons .nilfn .nil, by simp [Value.cells, Value.oneCell']⟩
  | iface t v c h => exact ⟨.cons (.iface t v c h) .nil, by simp [Value.cells, Value.oneCell']⟩
  | niliface => exact ⟨.cons .niliface .nil, by simp [Value.cells, Value.oneCell']⟩

theorem ofVal1_sound {c : Value} {v : AV} (h : ofVal1 c = some v) : VR K n v c ∧ c.oneCell' = true := by
  cases c with
  | bool b => simp [ofVal1] at h; subst h; exact ⟨.bool b, rfl⟩
  | int k i => simp [ofVal1] at h; subst h; exact ⟨.int k i, rfl⟩
  | string s => simp [ofVal1] at h; subst h; exact ⟨.str s, rfl⟩
  | pointer a => cases a with
    | none => simp [ofVal1] at h; subst h; exact ⟨.nilptr, rfl⟩
    | some a => simp [ofVal1] at h
  | slice a l cp =>
    cases a with
    | some a => simp [ofVal1] at h
    | none =>
      cases l with
      | succ l => simp [ofVal1] at h
      | zero => cases cp with
        | succ l => simp [ofVal1] at h
        | zero =>
          simp [ofVal1] at h; subst h
          exact ⟨.list .full 0 [] none 0 (fun _ _ => undef) (Nat.le_refl _) rfl (fun h => absurd rfl h) (fun i hi => by simp at hi) (fun i j hi => by simp at hi) (fun i j hi => by simp at hi), rfl⟩
  | map r => cases r with
    | none => simp [ofVal1] at h; subst h; exact ⟨.nilmap, rfl⟩
    | some r => simp [ofVal1] at h
  | nilFunc => simp [ofVal1] at h; subst h; exact ⟨.nilfn, rfl⟩
  | nilIface => simp [ofVal1] at h; subst h; exact ⟨.niliface, rfl⟩
  | _ => simp [ofVal1] at h

theorem ofVals_sound : ∀ {cs : List Value} {vs : List AV}, ofVals cs = some vs → VRs K n vs cs ∧ ∀ c ∈ cs, c.oneCell' = true
  | [], vs, h => by simp [ofVals] at h; subst h; exact ⟨.nil, by simp⟩
  | c :: cs, vs, h => by
    simp only [ofVals] at h
    split at h
    · rename_i v vs' h1 h2
      simp at h; subst h
      obtain ⟨a1, a2⟩ := ofVal1_sound (K := K) (n := n) h1
      obtain ⟨b1, b2⟩ := ofVals_sound h2
      exact ⟨.cons a1 b1, by simpa [a2] using b2⟩
    · simp at h

theorem VRs.agg {vs : List AV} {cs : Array Value} (h : VRs K n vs cs.toList) (h1 : ∀ c ∈ cs.toList, c.oneCell' = true) : VR K n (.agg vs) (.agg cs) := by
  have := VR.agg (K := K) (n := n) vs cs.toList h.1 h1 h.2
  simpa using this
theorem VRs.tup {vs : List AV} {cs : Array Value} (h : VRs K n vs cs.toList) : VR K n (.tup vs) (.tuple cs) := by
  have := VR.tup (K := K) (n := n) vs cs.toList h.1 h.2
  simpa using this
theorem VRs.fn {f : Fn} {a b : List AV} {a' b' : Array Value} (h : VRs K n a a'.toList) (h' : VRs K n b b'.toList) : VR K n (.fn f a b) (.func f a' b') := by
  have := VR.fn (K := K) (n := n) f a b a'.toList b'.toList h.1 h'.1 h.2 h'.2
  simpa using this

theorem ofVal_sound {c : Value} {v : AV} (h : ofVal c = some v) : VR K n v c := by
  cases c with
  | agg cs =>
    simp only [ofVal, Option.map_eq_some_iff] at h
    obtain ⟨vs, h1, rfl⟩ := h
    obtain ⟨a, b⟩ := ofVals_sound (K := K) (n := n) h1
    exact a.agg b
  | tuple cs =>
    simp only [ofVal, Option.map_eq_some_iff] at h
    obtain ⟨vs, h1, rfl⟩ := h
    exact (ofVals_sound (K := K) (n := n) h1).1.tup
  | _ => exact (ofVal1_sound (by simpa only [ofVal] using h)).1

theorem aeval_sound {fr : Fr} {a : Act} {x : Operand} {v : AV} (hF : FR K n N fr a.tmps) (h : aeval fr x = some v) : VR K n v (a.eval x) := by
  cases x with
  | tmp t =>
    obtain ⟨c, h1, h2⟩ := hF.2 t v h
    simpa [Act.eval, h1] using h2
  | const c => exact ofVal_sound h
  | func f =>
    simp [aeval] at h; subst h
    exact VRs.fn (a := []) (b := []) (a' := #[]) (b' := #[]) .nil .nil
  | global g => simp [aeval] at h

theorem aevals_sound {fr : Fr} {a : Act} (hF : FR K n N fr a.tmps) : ∀ {xs : List Operand} {vs : List AV}, aevals fr xs = some vs → VRs K n vs (xs.map a.eval)
  | [], vs, h => by simp [aevals] at h; subst h; exact .nil
  | x :: xs, vs, h => by
    simp only [aevals] at h
    split at h
    · rename_i v vs' h1 h2
      simp at h; subst h
      exact .cons (aeval_sound hF h1) (aevals_sound hF h2)
    · simp at h

/-- What the table of types says is so. -/
def TysOK (P : Program) (ty : Nat → TI) : Prop := ∀ t, (ty t).kd ≠ .other → TyOK P t (ty t)

theorem run_under {t : Nat} (h : TysOK P ty) (hk : (ty t).kd ≠ .other) : ∃ d, KdOK d (ty t).kd ∧ ∀ w, (underlying t).run P w = .ok d w := by
  obtain ⟨d, h1, h2⟩ := (h t hk).kd
  exact ⟨d, h2, fun w => run_underlying h1 w⟩
theorem run_info {t : Nat} (h : TysOK P ty) (hk : (ty t).kd ≠ .other) : ∃ i : TypeInfo, i.size = (ty t).sz ∧ i.bytes = (ty t).bytes ∧ (∃ z, i.zero = some z ∧ ofVal z = some (ty t).zero) ∧ ∀ w, (typeInfo t).run P w = .ok i w := by
  obtain ⟨i, h1, h2, h3, h4, h5⟩ := (h t hk).info
  exact ⟨i, h2, h3, h4, fun w => by simp [typeInfo, h1]⟩
theorem zero_flat {t : Nat} (h : TysOK P ty) (hk : (ty t).kd ≠ .other) : (ty t).zero.flat = true := by
  obtain ⟨i, _, _, _, _, h5⟩ := (h t hk).info
  exact h5
theorem run_size {t : Nat} (h : TysOK P ty) (hk : (ty t).kd ≠ .other) (w : World) : (sizeOf t).run P w = .ok (ty t).sz w := by
  obtain ⟨i, h1, _, _, h2⟩ := run_info h hk
  simp [Go.sizeOf, h2 w, h1]
theorem run_zero {t : Nat} (h : TysOK P ty) (hk : (ty t).kd ≠ .other) : ∃ z, VR K n (ty t).zero z ∧ ∀ w, (zeroValue t).run P w = .ok z w := by
  obtain ⟨i, _, _, ⟨z, h3, h4⟩, h2⟩ := run_info h hk
  exact ⟨z, ofVal_sound h4, fun w => by simp [zeroValue, h2 w, h3]⟩
theorem run_agg {t : Nat} {b : Bool} (h : TysOK P ty) (hb : (ty t).kd.agg = some b) (w : World) : (isAgg t).run P w = .ok b w := by
  have hk : (ty t).kd ≠ .other := by intro e; rw [e] at hb; simp [TK.agg] at hb
  obtain ⟨d, h1, h2⟩ := run_under h hk
  simp only [isAgg, Sem.run_bind, h2 w, Result.andThen_ok]
  generalize (ty t).kd = kd at *
  cases kd <;> simp only [TK.agg, Option.some.injEq, reduceCtorEq] at hb <;> try subst hb
  case func => obtain ⟨a, b, c, rfl⟩ := h1; rfl
  case iface => obtain ⟨m, rfl⟩ := h1; rfl
  case strct => obtain ⟨f, rfl, _⟩ := h1; rfl
  all_goals (simp only [KdOK] at h1; subst h1; rfl)

theorem VRs.mem_one {l' : List Value} {x : Value} {i : Nat} (h1 : ∀ c ∈ l', c.oneCell' = true) (h : l'[i]? = some x) : x.oneCell' = true := h1 x (List.mem_of_getElem? h)

theorem run_partA {t off : Nat} {cs : List AV} {cc : Array Value} {v : AV} (h : TysOK P ty) (hc : VRs K n cs cc.toList) (h1 : ∀ c ∈ cc.toList, c.oneCell' = true)
    (hs : subAt off (ty t).sz cs (ty t).kd.agg = some v) (w : World) : ∃ c, (part t cc off).run P w = .ok c w ∧ VR K n v c ∧ (v.flat = true) := by
  cases hb : (ty t).kd.agg with
  | none => rw [hb] at hs; simp [subAt] at hs
  | some b =>
    have hk : (ty t).kd ≠ .other := by intro e; rw [e] at hb; simp [TK.agg] at hb
    rw [hb] at hs
    simp only [part, Sem.run_bind, run_agg h hb w, Result.andThen_ok]
    cases b with
    | true =>
      simp only [subAt] at hs
      split at hs
      · simp at hs; subst hs
        refine ⟨_, by simp [run_size h hk w]; rfl, ?_, rfl⟩
        refine VRs.agg ?_ ?_
        · have := (hc.drop off).take (ty t).sz
          simpa [Array.toList_extract, List.extract] using this
        · intro c hcm
          simp [Array.toList_extract, List.extract] at hcm
          exact h1 c (by have := List.mem_of_mem_take hcm; exact List.mem_of_mem_drop this)
      · simp at hs
    | false =>
      simp only [subAt] at hs
      obtain ⟨c, h2, h3⟩ := hc.get hs
      refine ⟨c, by simp at h2; simp [h2], h3, ?_⟩
      have := VRs.mem_one h1 h2
      cases h3 <;> simp [AV.flat, Value.oneCell'] at this ⊢

end Go.Mu
set_option linter.unusedSimpArgs false
set_option linter.unusedVariables false
namespace Go.Mu
open Go

variable {P : Program} {K : Kr} {n N : Nat} {ty : Nat → TI}

structure EqsOK (P : Program) (ty : Nat → TI) : Prop where
  guard : ∀ t, (ty t).eqn = true → P.eqGuardType P.depth t = false
  eq : ∀ t, (ty t).eqn = true → ∀ (xs ys : List Int) (w : World), xs.length = (ty t).sz → ys.length = (ty t).sz →
    (Op.equal t (.agg (xs.map (.int .i64)).toArray) (.agg (ys.map (.int .i64)).toArray)).run P w = .ok (xs == ys) w
  kkd : ∀ t, (ty t).keyn = true → (ty t).kd ≠ .other
  keq : ∀ t, (ty t).keyn = true → ∀ (xs ys : List Int) (w : World), xs.length = (ty t).sz → ys.length = (ty t).sz →
    (Op.equal t (.agg (xs.map (.int .i64)).toArray) (.agg (ys.map (.int .i64)).toArray)).run P w = .ok (xs == ys) w
  kck : ∀ t, (ty t).keyn = true → ∀ (e : Bool) (xs : List Int) (w : World), xs.length = (ty t).sz →
    (Instr.checkKey e 10000 t (.agg (xs.map (.int .i64)).toArray)).run P w = .ok () w

theorem intsA_sound : ∀ {cs : List AV} {xs : List Int} {cc : List Value}, intsA cs = some xs → VRs K n cs cc → cc = xs.map (.int .i64)
  | [], xs, cc, h, hv => by
    simp [intsA] at h; subst h
    have := hv.1
    simp at this; simp [List.length_eq_zero_iff.1 this.symm]
  | c :: cs, xs, cc, h, hv => by
    cases cc with
    | nil => have := hv.1; simp at this
    | cons d ds =>
      cases c with
      | int k i =>
        cases k with
        | i64 =>
          simp only [intsA, Option.map_eq_some_iff] at h
          obtain ⟨ys, h1, rfl⟩ := h
          have h2 := hv.head
          cases h2
          simp [intsA_sound h1 hv.tail]
        | _ => simp [intsA] at h
      | _ => simp [intsA] at h

theorem eqGuard_int (op : BinOp) (t : TypeId) (x y : Operand) (k k' : IntKind) (p q : Int) (w : World) : (eqGuard op t x y (.int k p) (.int k' q)).run P w = .ok () w := by
  unfold eqGuard; cases op <;> rfl
theorem eqGuard_bool (op : BinOp) (t : TypeId) (x y : Operand) (p q : Bool) (w : World) : (eqGuard op t x y (.bool p) (.bool q)).run P w = .ok () w := by
  unfold eqGuard; cases op <;> rfl
theorem eqGuard_str (op : BinOp) (t : TypeId) (x y : Operand) (p q : ByteArray) (w : World) : (eqGuard op t x y (.string p) (.string q)).run P w = .ok () w := by
  unfold eqGuard; cases op <;> rfl
theorem eqGuard_agg {t : TypeId} (hE : P.eqGuardType P.depth t = false) (op : BinOp) (x y : Operand) (p q : Array Value) (w : World) : (eqGuard op t x y (.agg p) (.agg q)).run P w = .ok () w := by
  unfold eqGuard; cases op <;> simp [hE]

theorem binA_sound {op : BinOp} {e : Bool} {k k' : IntKind} {p q : Int} {v : AV} (h : binA op e (.int k p) (.int k' q) = some v) (t : TypeId) (w : World) :
    ∃ c, (binOp op t (.int k p) (.int k' q)).run P w = .ok c w ∧ VR K n v c := by
  by_cases hs : op = .shl
  · subst hs
    simp only [binA] at h
    split at h
    · rename_i hq
      simp at h; subst h
      refine ⟨_, ?_, .int _ _⟩
      have : ¬ q < 0 := by omega
      simp [binOp, Op.shift, this]
    · simp at h
  by_cases hs' : op = .shr
  · subst hs'
    simp only [binA] at h
    split at h
    · rename_i hq
      simp at h; subst h
      refine ⟨_, ?_, .int _ _⟩
      have : ¬ q < 0 := by omega
      simp [binOp, Op.shift, this]
    · simp at h
  by_cases hk : k = k'
  · subst hk
    cases op <;> simp only [binA, if_true] at h
    case shl => exact absurd rfl hs
    case shr => exact absurd rfl hs'
    case quo =>
      split at h
      · simp at h
      · rename_i hq
        simp at h; subst h
        exact ⟨_, by simp [binOp, Op.intDiv, hq], .int _ _⟩
    case rem =>
      split at h
      · simp at h
      · rename_i hq
        simp at h; subst h
        exact ⟨_, by simp [binOp, Op.intDiv, hq], .int _ _⟩
    all_goals
      first
        | (simp at h; done)
        | (simp only [Option.some.injEq] at h; subst h
           first
             | exact ⟨_, by simp only [binOp, Op.intArith, Op.intBits, Op.intCmp, ne_eq, not_true_eq_false, if_false]; rfl, .int _ _⟩
             | exact ⟨_, by simp only [binOp, Op.intArith, Op.intBits, Op.intCmp, ne_eq, not_true_eq_false, if_false]; rfl, .bool _⟩)
  · cases op <;> simp [binA, hk] at h
    case shl => exact absurd rfl hs
    case shr => exact absurd rfl hs'

theorem lenA_sound {hT : TysOK P ty} {t m : Nat} {v : AV} {c : Value} (h : lenA (ty t).kd v = some m) (hv : VR K n v c) (at' : Array TypeId) (ht : at'[0]? = some t) (type : TypeId) (w : World) :
    (Builtin.len_ at' type #[c]).run P w = .ok (.int .i64 m) w := by
  have hk : (ty t).kd ≠ .other := by intro e; rw [e] at h; cases v <;> simp [lenA] at h
  obtain ⟨d, h1, h2⟩ := run_under hT hk
  generalize (ty t).kd = kd at *
  cases hv <;> cases kd <;> simp only [lenA, Option.some.injEq, reduceCtorEq] at h <;> subst h <;> simp only [KdOK] at h1 <;> subst h1 <;>
    simp [Builtin.len_, ht, h2 w, goInt]

theorem maxL_sound : ∀ {vs : List AV} {k : IntKind} {a : Int} {v : AV} {cs : List Value}, maxL k a vs = some v → VRs K n vs cs → ∀ w, ∃ c, (cs.foldlM Builtin.max2 (.int k a)).run P w = .ok c w ∧ VR K n v c
  | [], k, a, v, cs, h, hv, w => by
    simp [maxL] at h; subst h
    have := hv.1
    simp at this; obtain rfl := List.length_eq_zero_iff.1 this.symm
    exact ⟨_, rfl, .int _ _⟩
  | x :: vs, k, a, v, cs, h, hv, w => by
    cases cs with
    | nil => have := hv.1; simp at this
    | cons d ds =>
      cases x with
      | int k' b =>
        have h2 := hv.head
        cases h2
        simp only [maxL] at h
        obtain ⟨c, h3, h4⟩ := maxL_sound h hv.tail w
        exact ⟨c, by simpa [Builtin.max2] using h3, h4⟩
      | _ => simp [maxL] at h
theorem minL_sound : ∀ {vs : List AV} {k : IntKind} {a : Int} {v : AV} {cs : List Value}, minL k a vs = some v → VRs K n vs cs → ∀ w, ∃ c, (cs.foldlM Builtin.min2 (.int k a)).run P w = .ok c w ∧ VR K n v c
  | [], k, a, v, cs, h, hv, w => by
    simp [minL] at h; subst h
    have := hv.1
    simp at this; obtain rfl := List.length_eq_zero_iff.1 this.symm
    exact ⟨_, rfl, .int _ _⟩
  | x :: vs, k, a, v, cs, h, hv, w => by
    cases cs with
    | nil => have := hv.1; simp at this
    | cons d ds =>
      cases x with
      | int k' b =>
        have h2 := hv.head
        cases h2
        simp only [minL] at h
        obtain ⟨c, h3, h4⟩ := minL_sound h hv.tail w
        exact ⟨c, by simpa [Builtin.min2] using h3, h4⟩
      | _ => simp [minL] at h

theorem apart_sound {fr : Fr} {a : Act} (hF : FR K n N fr a.tmps) : ∀ {ps : List (Nat × Operand)} {vs : List (Nat × AV)}, apart fr ps = some vs →
    vs.map (·.1) = ps.map (·.1) ∧ VRs K n (vs.map (·.2)) (ps.map fun p => a.eval p.2)
  | [], vs, h => by simp [apart] at h; subst h; exact ⟨rfl, .nil⟩
  | (i, x) :: ps, vs, h => by
    simp only [apart] at h
    split at h
    · rename_i v vs' h1 h2
      simp at h; subst h
      obtain ⟨b1, b2⟩ := apart_sound hF h2
      exact ⟨by simp [b1], .cons (aeval_sound hF h1) b2⟩
    · simp at h

theorem foldl_put : ∀ (vs : List Value) (j off : Nat) (cs : Array Value), off + j + vs.length ≤ cs.size →
    ((vs.zipIdx j).foldl (fun (cs : Array Value) (p : Value × Nat) => cs.setIfInBounds (off + p.2) p.1) cs).toList = cs.toList.take (off + j) ++ vs ++ cs.toList.drop (off + j + vs.length)
  | [], j, off, cs, h => by simp
  | v :: vs, j, off, cs, h => by
    simp only [List.length_cons] at h
    simp only [List.zipIdx_cons, List.foldl_cons]
    rw [foldl_put vs (j + 1) off _ (by simp; omega)]
    simp only [Array.toList_setIfInBounds, List.length_cons]
    have h1 : off + j < cs.toList.length := by simp; omega
    rw [show off + (j + 1) = off + j + 1 from by omega, List.take_set, List.drop_set, if_pos (by omega), List.take_succ_eq_append_getElem h1]
    rw [List.set_append, if_neg (by simp; omega)]
    simp only [List.length_take, Nat.min_eq_left (Nat.le_of_lt h1), Nat.sub_self, List.set_cons_zero]
    simp only [List.append_assoc, List.cons_append, List.nil_append]
    rw [show off + j + 1 + vs.length = off + j + (vs.length + 1) from by omega]

theorem fill_sound (place : Nat → Option (Nat × Nat)) : ∀ {ps : List (Nat × AV)} {cs cs' : List AV} {ps' : List (Nat × Value)} {cc : Array Value},
    fillA place cs ps = some cs' → ps.map (·.1) = ps'.map (·.1) → VRs K n (ps.map (·.2)) (ps'.map (·.2)) → VRs K n cs cc.toList → (∀ c ∈ cc.toList, c.oneCell' = true) →
    ∃ cc', Instr.fill place cc ps' = some cc' ∧ VRs K n cs' cc'.toList ∧ (∀ c ∈ cc'.toList, c.oneCell' = true)
  | [], cs, cs', ps', cc, h, h1, h2, h3, h4 => by
    simp [fillA] at h; subst h
    cases ps' with
    | nil => exact ⟨cc, rfl, h3, h4⟩
    | cons => simp at h1
  | (i, v) :: ps, cs, cs', ps', cc, h, h1, h2, h3, h4 => by
    cases ps' with
    | nil => simp at h1
    | cons q qs =>
      obtain ⟨i', c⟩ := q
      simp only [List.map_cons, List.cons.injEq] at h1 h2
      obtain ⟨rfl, h1⟩ := h1
      simp only [fillA] at h
      cases hp : place i with
      | none => simp [hp] at h
      | some os =>
        obtain ⟨off, size⟩ := os
        simp only [hp] at h
        split at h
        · rename_i hc
          obtain ⟨hf, hs, hl⟩ := hc
          obtain ⟨g1, g2⟩ := h2.head.cells hf
          have g3 : c.cells.size = size := by have := g1.1; simp at this; omega
          have g4 : off + size ≤ cc.size := by have := h3.1; simp at this; omega
          have hput : (c.cells.zipIdx.foldl (fun (cs : Array Value) (p : Value × Nat) => cs.setIfInBounds (off + p.2) p.1) cc).toList = cc.toList.take off ++ c.cells.toList ++ cc.toList.drop (off + size) := by
            rw [← Array.foldl_toList, Array.toList_zipIdx]
            rw [foldl_put c.cells.toList 0 off cc (by simp; omega)]
            simp [g3]
          simp only [Instr.fill, hp]
          rw [if_neg (by simp [g3]; omega)]
          refine fill_sound place h h1 h2.tail ?_ ?_
          · have : VRs K n (putAt off v.cells cs) (cc.toList.take off ++ c.cells.toList ++ cc.toList.drop (off + size)) := by
              unfold putAt
              rw [hs]
              exact ((h3.take off).append g1).append (h3.drop _)
            rw [← hput] at this
            exact this
          · intro x hx
            have hx' : x ∈ (c.cells.zipIdx.foldl (fun (cs : Array Value) (p : Value × Nat) => cs.setIfInBounds (off + p.2) p.1) cc).toList := hx
            rw [hput] at hx'
            simp only [List.mem_append] at hx'
            rcases hx' with (hx' | hx') | hx'
            · exact h4 x (List.mem_of_mem_take hx')
            · exact g2 x hx'
            · exact h4 x (List.mem_of_mem_drop hx')
        · simp at h

end Go.Mu
set_option linter.unusedSimpArgs false
set_option linter.unusedVariables false
namespace Go.Mu
open Go

variable {P : Program} {K : Kr} {n N : Nat} {ty : Nat → TI}

theorem VR.eptr_field {cs : List AV} {off d : Nat} {c : Value} (h : VR K n (.eptr cs off) c) : ∃ b o, c = .pointer (some ⟨b, o + off, none⟩) ∧ ∀ d, VR K n (.eptr cs (off + d)) (.pointer (some ⟨b, o + (off + d), none⟩)) := by
  cases h with
  | eptr _ _ b o f hS h1 h => exact ⟨b, o, rfl, fun d => .eptr cs (off + d) b o f hS h1 h⟩

theorem VR.vptr_field {r m sz i off : Nat} {c : Value} (h : VR K n (.vptr r m sz i off) c) : ∃ b o, c = .pointer (some ⟨b, o + (i * sz + off), none⟩) ∧ ∀ sz i off, VR K n (.vptr r m sz i off) (.pointer (some ⟨b, o + (i * sz + off), none⟩)) := by
  cases h with
  | vptr _ _ _ _ _ b o cap h ht => exact ⟨b, o, rfl, fun sz i off => .vptr r m sz i off b o cap h ht⟩

theorem addr_add (b o d : Nat) : (⟨b, o, none⟩ : Addr).add d = ⟨b, o + d, none⟩ := by
  unfold Addr.add; split <;> simp_all

theorem run_fieldPlace (hT : TysOK P ty) {f : Field} (hk : (ty f.type).kd ≠ .other) (hz : (ty f.type).sz ≠ 0) (a : Addr) (w : World) : (fieldPlace a f).run P w = .ok (a.add f.offset) w := by
  simp [fieldPlace, run_size hT hk w, hz]

theorem list_elem {t : Tok} {sz : Nat} {xs : List AV} {c : Value} {k : Nat} {x : AV} (h : VR K n (.list t sz xs) c) (hx : xs[k]? = some x) :
    ∃ b o cap, c = .slice (some ⟨b, o, none⟩) xs.length cap ∧ VR K n (.eptr x.cells 0) (.pointer (some ⟨b, o + k * sz, none⟩)) := by
  cases h with
  | list _ _ _ a cap f hl ht ha hs h1 h =>
    obtain ⟨hlt, rfl⟩ := List.getElem?_eq_some_iff.1 hx
    obtain ⟨b, o, rfl, hS⟩ := ha (by intro e; subst e; simp at hlt)
    have hsz := hs k hlt
    exact ⟨b, o, cap, rfl, .eptr _ 0 b (o + k * sz) (f k) (fun j hj => by rw [Nat.add_assoc]; exact hS k j hlt (by omega)) (fun j hj => h1 k j hlt (by omega)) (fun j hj => h k j hlt hj)⟩

theorem VR.list_take {t : Tok} {sz : Nat} {xs : List AV} {a : Option Addr} {len cap lo hi : Nat} (h : VR K n (.list t sz xs) (.slice a len cap)) (h1 : lo ≤ hi) (h2 : hi ≤ xs.length) :
    VR K n (.list .no sz ((xs.take hi).drop lo)) (.slice (if cap = lo then a else a.map (·.add (lo * sz))) (hi - lo) (cap - lo)) := by
  cases h with
  | list _ _ _ _ _ f hl ht ha hs g1 h =>
    have hlen : ((xs.take hi).drop lo).length = hi - lo := by simp; omega
    rw [← hlen]
    refine .list .no sz _ _ _ (fun i j => f (lo + i) j) (by omega) trivial (fun hx => ?_) (fun i hi' => ?_) (fun i j hi' hj => ?_) (fun i j hi' hj => ?_)
    · have hne : (xs.take hi).drop lo ≠ [] := hx
      have hlt : lo < hi := by
        rcases Nat.lt_or_ge lo hi with e | e
        · exact e
        · exact absurd (List.drop_eq_nil_iff.2 (by simp; omega)) hne
      obtain ⟨b, o, rfl, hS⟩ := ha (by intro e; subst e; simp at h2; omega)
      refine ⟨b, o + lo * sz, ?_, fun i j hi' hj => ?_⟩
      · rw [if_neg (by omega)]; simp [addr_add]
      · have := hS (lo + i) j (by omega) hj
        rw [← this]; congr 1; rw [Nat.add_mul]; omega
    · have : lo + i < xs.length := by omega
      have := hs (lo + i) this
      simpa using this
    · exact g1 _ _ (by omega) hj
    · have e : ((xs.take hi).drop lo)[i] = xs[lo + i]'(by omega) := by simp
      have := h (lo + i) j (by omega) (by rw [← e]; exact hj)
      simpa [e] using this

theorem kd_of_agg {t : Nat} (h : (ty t).kd.agg.isSome = true) : (ty t).kd ≠ .other := by
  intro e; rw [e] at h; simp [TK.agg] at h
theorem kd_of_agg' {t : Nat} (h : ¬ (ty t).kd.agg = none) : (ty t).kd ≠ .other := by
  intro e; rw [e] at h; simp [TK.agg] at h

theorem VR.agg_inv {cs : List AV} {c : Value} (h : VR K n (.agg cs) c) : ∃ cc : Array Value, c = .agg cc ∧ VRs K n cs cc.toList ∧ ∀ x ∈ cc.toList, x.oneCell' = true := by
  cases h with
  | agg _ cs' hl h1 h => exact ⟨cs'.toArray, rfl, ⟨by simpa using hl, by simpa using h⟩, by simpa using h1⟩
theorem VR.tup_inv {cs : List AV} {c : Value} (h : VR K n (.tup cs) c) : ∃ cc : Array Value, c = .tuple cc ∧ VRs K n cs cc.toList := by
  cases h with
  | tup _ cs' hl h => exact ⟨cs'.toArray, rfl, ⟨by simpa using hl, by simpa using h⟩⟩
theorem VR.int_inv {k : IntKind} {i : Int} {c : Value} (h : VR K n (.int k i) c) : c = .int k i := by cases h; rfl
theorem VR.bool_inv {b : Bool} {c : Value} (h : VR K n (.bool b) c) : c = .bool b := by cases h; rfl
theorem VR.str_inv {s : ByteArray} {c : Value} (h : VR K n (.str s) c) : c = .string s := by cases h; rfl
theorem VR.ptr_inv {r off : Nat} {c : Value} (h : VR K n (.ptr r off) c) : r < n ∧ c = .pointer (some ⟨K.φ r, off, none⟩) := by cases h; exact ⟨by assumption, rfl⟩

theorem mapM_size (hT : TysOK P ty) : ∀ (fs : List Field), (∀ f ∈ fs, (ty f.type).kd ≠ .other) → ∀ w,
    (fs.mapM (m := Sem) fun f => do pure (f.offset, ← sizeOf f.type)).run P w = .ok (fs.map fun f => (f.offset, (ty f.type).sz)) w
  | [], _, w => rfl
  | f :: fs, h, w => by
    simp only [List.mapM_cons, Sem.run_bind, run_size hT (h f (by simp)), Result.andThen_ok, Sem.run_pure, mapM_size hT fs (fun g hg => h g (by simp [hg])) w, List.map_cons]

theorem build_sound (hT : TysOK P ty) {fr : Fr} {a : Act} {v : AV} (hF : FR K n N fr a.tmps) {type : TypeId} {t : TypeId} {parts : Array (Nat × Operand)} (h : pop ty fr type (.build t parts) = some v) (w : World) :
    ∃ c, (Instr.build t (parts.map fun (i, x) => (i, a.eval x))).run P w = .ok c w ∧ VR K n v c := by
  have hps : ∀ {ps}, apart fr parts.toList = some ps → ps.map (·.1) = ((parts.map fun (i, x) => (i, a.eval x)).toList).map (·.1) ∧ VRs K n (ps.map (·.2)) (((parts.map fun (i, x) => (i, a.eval x)).toList).map (·.2)) := fun {ps} h => by
    obtain ⟨b1, b2⟩ := apart_sound hF h
    refine ⟨by rw [b1]; simp [Function.comp_def], ?_⟩
    simpa [Function.comp_def] using b2
  simp only [pop] at h
  split at h
  · rename_i ps fs h1 h2
    split at h
    · rename_i hall
      simp only [Option.map_eq_some_iff] at h
      obtain ⟨cs', h3, rfl⟩ := h
      have hk : (ty t).kd ≠ .other := by rw [h2]; simp
      obtain ⟨d, hd, hu⟩ := run_under hT hk
      obtain ⟨z, hz, hzr⟩ := run_zero (K := K) (n := n) hT hk
      rw [h2] at hd
      obtain ⟨fields, rfl, rfl⟩ := hd
      have hallf : ∀ f ∈ fields.toList, (ty f.type).kd ≠ .other := fun f hf => kd_of_agg (by
        have := List.all_eq_true.1 hall (f.offset, f.type) (List.mem_map.2 ⟨f, hf, rfl⟩)
        simpa using this)
      obtain ⟨b1, b2⟩ := hps h1
      have hzf := zero_flat hT hk
      obtain ⟨g1, g2⟩ := hz.cells hzf
      obtain ⟨cc', k1, k2, k3⟩ := fill_sound _ h3 b1 b2 g1 g2
      refine ⟨.agg cc', ?_, k2.agg k3⟩
      have hm : (fields.mapM (m := Sem) fun f => do pure (f.offset, ← sizeOf f.type)).run P w = .ok (fields.toList.map fun f => (f.offset, (ty f.type).sz)).toArray w := by
        rw [Array.mapM_eq_mapM_toList, Sem.run_map, mapM_size hT fields.toList hallf w]
        rfl
      simp only [Instr.build, Sem.run_bind, hzr w, hu w, hm, Result.andThen_ok]
      have hpl : (fun (i : Nat) => ((fields.toList.map fun f => (f.offset, (ty f.type).sz)).toArray)[i]?) = fun (i : Nat) => ((fields.toList.map fun f => (f.offset, f.type))[i]?).map fun (p : Nat × Nat) => (p.1, (ty p.2).sz) := by
        funext i; simp [Function.comp_def]
      rw [hpl, k1]
      rfl
    · simp at h
  · rename_i ps m e h1 h2
    split at h
    · rename_i hall
      simp only [Option.map_eq_some_iff] at h
      obtain ⟨cs', h3, rfl⟩ := h
      have hk : (ty t).kd ≠ .other := by rw [h2]; simp
      obtain ⟨d, hd, hu⟩ := run_under hT hk
      obtain ⟨z, hz, hzr⟩ := run_zero (K := K) (n := n) hT hk
      rw [h2] at hd
      simp only [KdOK] at hd
      subst hd
      obtain ⟨b1, b2⟩ := hps h1
      obtain ⟨g1, g2⟩ := hz.cells (zero_flat hT hk)
      obtain ⟨cc', k1, k2, k3⟩ := fill_sound _ h3 b1 b2 g1 g2
      refine ⟨.agg cc', ?_, k2.agg k3⟩
      simp only [Instr.build, Sem.run_bind, hzr w, hu w, run_size hT (kd_of_agg hall), Result.andThen_ok]
      rw [k1]
      rfl
    · simp at h
  · simp at h

theorem slice_bounds (P : Program) (isS : Bool) (len cap : Nat) (lo hi : Option Value) (l h : Int) (hlo : lo = none ∧ l = 0 ∨ ∃ k, lo = some (.int k l)) (hhi : hi = none ∧ h = len ∨ ∃ k, hi = some (.int k h))
    (h0 : 0 ≤ l) (h1 : l ≤ h) (h2 : h ≤ cap) (w : World) : (Instr.sliceBounds isS len cap lo hi none).run P w = .ok (l.toNat, h.toNat, cap) w := by
  have e2 : 0 ≤ h := by omega
  obtain ⟨h, rfl⟩ := Int.eq_ofNat_of_zero_le e2
  obtain ⟨l, rfl⟩ := Int.eq_ofNat_of_zero_le h0
  have e1 : (l : Int) ≤ (h : Int) := by omega
  have e3 : l ≤ h := by omega
  have e4 : h ≤ cap := by omega
  rcases hlo with ⟨rfl, el⟩ | ⟨k, rfl⟩ <;> rcases hhi with ⟨rfl, eh⟩ | ⟨k', rfl⟩ <;>
    (try (have e5 : len = h := by omega)) <;> (try (have e6 : l = 0 := by omega)) <;> simp_all [Instr.sliceBounds, Instr.sliceBound, asIntOf]

theorem bound_sound {fr : Fr} {a : Act} (hF : FR K n N fr a.tmps) {x : Option Operand} {d h : Int} (hx : (match x with | none => some d | some h => match aeval fr h with | some (.int _ h) => some h | _ => none) = some h) :
    (x.map a.eval) = none ∧ h = d ∨ ∃ k, (x.map a.eval) = some (.int k h) := by
  cases x with
  | none => simp at hx; exact .inl ⟨rfl, hx.symm⟩
  | some x =>
    simp only at hx
    split at hx
    · rename_i k i hi
      simp at hx; subst hx
      exact .inr ⟨k, by simp [(aeval_sound hF hi).int_inv]⟩
    · simp at hx

set_option maxHeartbeats 2000000 in
theorem pop_sound (hT : TysOK P ty) (hE : EqsOK P ty) {fr : Fr} {a : Act} {o : Oper} {v : AV} (hF : FR K n N fr a.tmps) (h : pop ty fr o.type o.op = some v) (w : World) :
    ∃ c, (execOp a.eval o).run P w = .ok (.value c) w ∧ VR K n v c := by
  obtain ⟨dst, op, type, pos, after, guard⟩ := o
  simp only at h
  cases op with
  | move x => exact ⟨_, rfl, aeval_sound hF h⟩
  | assign x => exact ⟨_, rfl, aeval_sound hF h⟩
  | pick c x y =>
    simp only [pop] at h
    split at h
    · rename_i cb va vb h1 h2 h3
      simp at h; subst h
      have g1 := (aeval_sound hF h1).bool_inv
      refine ⟨if cb then a.eval x else a.eval y, by simp [execOp, g1, asBool], ?_⟩
      cases cb
      · simpa using aeval_sound hF h3
      · simpa using aeval_sound hF h2
    · simp at h
  | build t parts =>
    obtain ⟨c, h1, h2⟩ := build_sound hT hF h w
    exact ⟨c, by simp only [execOp, Sem.run_bind, h1, Result.andThen_ok]; rfl, h2⟩
  | fieldAddr t x f =>
    simp only [pop] at h
    split at h
    · rename_i fs r off h1 h2
      split at h
      · rename_i p hp
        split at h
        · simp at h
        · rename_i hz
          simp only [not_or] at hz
          simp at h; subst h
          have hk : (ty t).kd ≠ .other := by rw [h1]; simp
          obtain ⟨d, hd, hu⟩ := run_under hT hk
          rw [h1] at hd
          obtain ⟨fields, rfl, rfl⟩ := hd
          simp only [List.getElem?_map, Option.map_eq_some_iff, Array.getElem?_toList] at hp
          obtain ⟨fd, hfd, rfl⟩ := hp
          obtain ⟨hr, hq⟩ := (aeval_sound hF h2).ptr_inv
          refine ⟨_, ?_, .ptr r (off + fd.offset) hr⟩
          simp [execOp, Instr.fieldAt, hu w, hfd, hq, Instr.sureAddr, run_fieldPlace hT (kd_of_agg' hz.1) hz.2, addr_add]
      · simp at h
    · rename_i fs cs off h1 h2
      split at h
      · rename_i p hp
        split at h
        · simp at h
        · rename_i hz
          simp only [not_or] at hz
          simp at h; subst h
          have hk : (ty t).kd ≠ .other := by rw [h1]; simp
          obtain ⟨d, hd, hu⟩ := run_under hT hk
          rw [h1] at hd
          obtain ⟨fields, rfl, rfl⟩ := hd
          simp only [List.getElem?_map, Option.map_eq_some_iff, Array.getElem?_toList] at hp
          obtain ⟨fd, hfd, rfl⟩ := hp
          obtain ⟨b, o, hq, hd⟩ := VR.eptr_field (d := fd.offset) (aeval_sound hF h2)
          refine ⟨_, ?_, hd fd.offset⟩
          simp [execOp, Instr.fieldAt, hu w, hfd, hq, Instr.sureAddr, run_fieldPlace hT (kd_of_agg' hz.1) hz.2, addr_add, Nat.add_assoc]
      · simp at h
    · rename_i fs r m sz i off h1 h2
      split at h
      · rename_i p hp
        split at h
        · simp at h
        · rename_i hz
          simp only [not_or] at hz
          simp at h; subst h
          have hk : (ty t).kd ≠ .other := by rw [h1]; simp
          obtain ⟨d, hd, hu⟩ := run_under hT hk
          rw [h1] at hd
          obtain ⟨fields, rfl, rfl⟩ := hd
          simp only [List.getElem?_map, Option.map_eq_some_iff, Array.getElem?_toList] at hp
          obtain ⟨fd, hfd, rfl⟩ := hp
          obtain ⟨b, o, hq, hd⟩ := VR.vptr_field (aeval_sound hF h2)
          refine ⟨_, ?_, hd sz i (off + fd.offset)⟩
          simp [execOp, Instr.fieldAt, hu w, hfd, hq, Instr.sureAddr, run_fieldPlace hT (kd_of_agg' hz.1) hz.2, addr_add, Nat.add_assoc]
      · simp at h
    · simp at h
  | field t x f =>
    simp only [pop] at h
    split at h
    · rename_i fs cs h1 h2
      split at h
      · rename_i p hp
        have hk : (ty t).kd ≠ .other := by rw [h1]; simp
        obtain ⟨d, hd, hu⟩ := run_under hT hk
        rw [h1] at hd
        obtain ⟨fields, rfl, rfl⟩ := hd
        simp only [List.getElem?_map, Option.map_eq_some_iff, Array.getElem?_toList] at hp
        obtain ⟨fd, hfd, rfl⟩ := hp
        obtain ⟨cc, hq, hc, h1'⟩ := (aeval_sound hF h2).agg_inv
        obtain ⟨c, g1, g2, _⟩ := run_partA hT hc h1' h w
        exact ⟨c, by simp [execOp, Instr.field, hu w, hfd, hq, asAgg, g1], g2⟩
      · simp at h
    · simp at h
  | index t x i =>
    simp only [pop] at h
    split at h
    · rename_i m e cs k i' h1 h2 h3
      split at h
      · rename_i hb
        have hk : (ty t).kd ≠ .other := by rw [h1]; simp
        obtain ⟨d, hd, hu⟩ := run_under hT hk
        rw [h1] at hd
        simp only [KdOK] at hd; subst hd
        obtain ⟨cc, hq, hc, h1'⟩ := (aeval_sound hF h2).agg_inv
        have hke : (ty e).kd ≠ .other := by intro e'; rw [e'] at h; simp [TK.agg, subAt] at h
        obtain ⟨c, g1, g2, _⟩ := run_partA hT hc h1' h w
        refine ⟨c, ?_, g2⟩
        simp [execOp, Instr.index, (aeval_sound hF h3).int_inv, asIntOf, hu w, hq, hb, run_size hT hke, g1]
      · simp at h
    · rename_i s k i' h1 h2 h3
      split at h
      · rename_i hb
        simp only [Option.map_eq_some_iff] at h
        obtain ⟨b, hb', rfl⟩ := h
        have hk : (ty t).kd ≠ .other := by rw [h1]; simp
        obtain ⟨d, hd, hu⟩ := run_under hT hk
        rw [h1] at hd
        simp only [KdOK] at hd; subst hd
        refine ⟨.int .u8 b.toNat, ?_, .int _ _⟩
        simp [execOp, Instr.index, (aeval_sound hF h3).int_inv, (aeval_sound hF h2).str_inv, asIntOf, hu w, hb, hb']
      · simp at h
    · simp at h
  | indexAddr t x i =>
    simp only [pop] at h
    split at h
    · rename_i e tk sz xs k i' h1 h2 h3
      split at h
      · rename_i hb
        simp only [Option.map_eq_some_iff, idx] at h
        obtain ⟨x', hx', rfl⟩ := h
        split at hx'
        · rename_i h0
          have hk : (ty t).kd ≠ .other := by rw [h1]; simp
          obtain ⟨d, hd, hu⟩ := run_under hT hk
          rw [h1] at hd
          simp only [KdOK] at hd; subst hd
          obtain ⟨b, o, cap, hq, he⟩ := list_elem (aeval_sound hF h2) hx'
          have hlt : i'.toNat < xs.length := (List.getElem?_eq_some_iff.1 hx').1
          have hlt' : i' < xs.length := by omega
          refine ⟨_, ?_, he⟩
          simp [execOp, Instr.indexAt, (aeval_sound hF h3).int_inv, asIntOf, hu w, hq, h0, hlt', run_size hT (kd_of_agg hb.2), addr_add, hb.1]
        · simp at hx'
      · simp at h
    · rename_i e r off len k i' h1 h2 h3
      split at h
      · rename_i hb
        simp at h; subst h
        have hk : (ty t).kd ≠ .other := by rw [h1]; simp
        obtain ⟨d, hd, hu⟩ := run_under hT hk
        rw [h1] at hd
        simp only [KdOK] at hd; subst hd
        have hx := aeval_sound hF h2
        generalize hq : a.eval x = q at hx
        cases hx with
        | arr _ _ _ ad cap hr hl ha =>
          have ha' : ad = some ⟨K.φ r, off, none⟩ := ha.resolve_left (by omega)
          subst ha'
          refine ⟨_, ?_, .ptr r _ hr⟩
          simp [execOp, Instr.indexAt, (aeval_sound hF h3).int_inv, asIntOf, hu w, hq, hb.1, hb.2.1, run_size hT (kd_of_agg hb.2.2), addr_add]
      · simp at h
    · rename_i e r len k i' h1 h2 h3
      split at h
      · rename_i hb
        simp at h; subst h
        have hk : (ty t).kd ≠ .other := by rw [h1]; simp
        obtain ⟨d, hd, hu⟩ := run_under hT hk
        rw [h1] at hd
        simp only [KdOK] at hd; subst hd
        have hx := aeval_sound hF h2
        generalize hq : a.eval x = q at hx
        cases hx with
        | vec _ _ ad cap hr hl ht ha =>
          obtain ⟨b, o, rfl⟩ := ha.resolve_left (by omega)
          refine ⟨_, ?_, .vptr r len (ty e).sz i'.toNat 0 b o cap hr ht⟩
          simp [execOp, Instr.indexAt, (aeval_sound hF h3).int_inv, asIntOf, hu w, hq, hb.1, hb.2.1, run_size hT (kd_of_agg hb.2.2), addr_add]
      · simp at h
    · rename_i m e r m' sz k' off k i' h1 h2 h3
      split at h
      · rename_i hb
        simp at h; subst h
        have hk : (ty t).kd ≠ .other := by rw [h1]; simp
        obtain ⟨d, hd, hu⟩ := run_under hT hk
        rw [h1] at hd
        simp only [KdOK] at hd; subst hd
        obtain ⟨b, o, hq, hd⟩ := VR.vptr_field (aeval_sound hF h2)
        refine ⟨_, ?_, hd _ _ _⟩
        simp [execOp, Instr.indexAt, (aeval_sound hF h3).int_inv, asIntOf, hu w, hq, hb.1, hb.2.1, run_size hT (kd_of_agg hb.2.2.2), addr_add, Instr.sureAddr, Nat.add_assoc]
      · simp at h
    · rename_i m e r off k i' h1 h2 h3
      split at h
      · rename_i hb
        simp at h; subst h
        have hk : (ty t).kd ≠ .other := by rw [h1]; simp
        obtain ⟨d, hd, hu⟩ := run_under hT hk
        rw [h1] at hd
        simp only [KdOK] at hd; subst hd
        obtain ⟨hr, hq⟩ := (aeval_sound hF h2).ptr_inv
        refine ⟨_, ?_, .ptr r _ hr⟩
        simp [execOp, Instr.indexAt, (aeval_sound hF h3).int_inv, asIntOf, hu w, hq, hb.1, hb.2.1, run_size hT (kd_of_agg hb.2.2.2), addr_add, Instr.sureAddr]
      · simp at h
    · rename_i m e cs off k i' h1 h2 h3
      split at h
      · rename_i hb
        simp at h; subst h
        have hk : (ty t).kd ≠ .other := by rw [h1]; simp
        obtain ⟨d, hd, hu⟩ := run_under hT hk
        rw [h1] at hd
        simp only [KdOK] at hd; subst hd
        obtain ⟨b, o, hq, hd⟩ := VR.eptr_field (d := 0) (aeval_sound hF h2)
        refine ⟨_, ?_, hd _⟩
        simp [execOp, Instr.indexAt, (aeval_sound hF h3).int_inv, asIntOf, hu w, hq, hb.1, hb.2.1, run_size hT (kd_of_agg hb.2.2.2), addr_add, Instr.sureAddr, Nat.add_assoc]
      · simp at h
    · simp at h
  | nilCheck x =>
    simp only [pop] at h
    split at h
    · rename_i r off h1
      simp at h; subst h
      have hx := aeval_sound hF h1
      obtain ⟨hr, hq⟩ := hx.ptr_inv
      exact ⟨_, by simp [execOp, hq], .ptr r off hr⟩
    · rename_i cs off h1
      simp at h; subst h
      have hx := aeval_sound hF h1
      obtain ⟨b, o, hq, hd⟩ := VR.eptr_field (d := 0) hx
      exact ⟨.pointer (some ⟨b, o + off, none⟩), by simp [execOp, hq], by simpa using hd 0⟩
    · rename_i r m sz i off h1
      simp at h; subst h
      have hx := aeval_sound hF h1
      obtain ⟨b, o, hq, hd⟩ := VR.vptr_field hx
      exact ⟨.pointer (some ⟨b, o + (i * sz + off), none⟩), by simp [execOp, hq], hd _ _ _⟩
    · rename_i f p q h1
      simp at h; subst h
      have hx := aeval_sound hF h1
      generalize hq : a.eval x = c at hx
      cases hx with
      | fn _ _ _ p' q' e1 e2 g1 g2 => exact ⟨_, by simp [execOp, hq], .fn _ _ _ p' q' e1 e2 g1 g2⟩
    · simp at h
  | binOp op t x y yt =>
    simp only [pop] at h
    split at h
    · rename_i k p k' q h1 h2
      obtain ⟨c, g1, g2⟩ := binA_sound (K := K) (n := n) (P := P) h t w
      refine ⟨c, ?_, g2⟩
      simp [execOp, (aeval_sound hF h1).int_inv, (aeval_sound hF h2).int_inv, eqGuard_int, g1]
    · rename_i p q h1 h2
      split at h
      · rename_i he
        split at h
        · rename_i xs ys hx hy
          split at h
          · rename_i hl
            simp at h; subst h
            obtain ⟨cc, hq, hc, _⟩ := (aeval_sound hF h1).agg_inv
            obtain ⟨cc', hq', hc', _⟩ := (aeval_sound hF h2).agg_inv
            have e1 := intsA_sound hx hc
            have e2 := intsA_sound hy hc'
            have := hE.eq t he xs ys w hl.1 hl.2
            rw [← e1, ← e2] at this
            refine ⟨_, ?_, .bool _⟩
            simp only [Array.toArray_toList] at this
            simp [execOp, hq, hq', eqGuard_agg (hE.guard t he), binOp, this]
          · simp at h
        · rename_i xs ys hx hy
          split at h
          · rename_i hl
            simp at h; subst h
            obtain ⟨cc, hq, hc, _⟩ := (aeval_sound hF h1).agg_inv
            obtain ⟨cc', hq', hc', _⟩ := (aeval_sound hF h2).agg_inv
            have e1 := intsA_sound hx hc
            have e2 := intsA_sound hy hc'
            have := hE.eq t he xs ys w hl.1 hl.2
            rw [← e1, ← e2] at this
            simp only [Array.toArray_toList] at this
            refine ⟨.bool (xs != ys), ?_, .bool _⟩
            simp only [execOp, hq, hq', Sem.run_bind, eqGuard_agg (hE.guard t he), binOp, this, Result.andThen_ok, Sem.run_pure, bne]
          · simp at h
        · simp at h
      · simp at h
    · rename_i p q h1 h2
      split at h
      · rename_i hk
        simp at h; subst h
        have hk' : (ty t).kd ≠ .other := by rw [hk]; simp
        obtain ⟨d, hu, hd⟩ := (hT t hk').kd
        rw [hk] at hd; simp only [KdOK] at hd; subst hd
        have := run_equalIn_bool' (P := P) w 9999 t p q hu
        exact ⟨_, by simp only [execOp, (aeval_sound hF h1).bool_inv, (aeval_sound hF h2).bool_inv, Sem.run_bind, eqGuard_bool, binOp, Op.equal, Op.maxDepth, this, Result.andThen_ok, Sem.run_pure], .bool _⟩
      · rename_i hk
        simp at h; subst h
        have hk' : (ty t).kd ≠ .other := by rw [hk]; simp
        obtain ⟨d, hu, hd⟩ := (hT t hk').kd
        rw [hk] at hd; simp only [KdOK] at hd; subst hd
        have := run_equalIn_bool' (P := P) w 9999 t p q hu
        exact ⟨_, by simp only [execOp, (aeval_sound hF h1).bool_inv, (aeval_sound hF h2).bool_inv, Sem.run_bind, eqGuard_bool, binOp, Op.equal, Op.maxDepth, this, Result.andThen_ok, Sem.run_pure, bne], .bool _⟩
      · simp at h
    · rename_i p q h1 h2
      split at h
      · simp at h; subst h
        exact ⟨_, by simp [execOp, (aeval_sound hF h1).str_inv, (aeval_sound hF h2).str_inv, eqGuard_str, binOp, Op.stringOp], .bool _⟩
      · simp at h; subst h
        exact ⟨_, by simp [execOp, (aeval_sound hF h1).str_inv, (aeval_sound hF h2).str_inv, eqGuard_str, binOp, Op.stringOp], .bool _⟩
      · split at h
        · rename_i hl
          simp at h; subst h
          refine ⟨.string (p ++ q), ?_, .str _⟩
          have hl' : ¬ ((p.size + q.size : Nat) : Int) > IntKind.i64.max := by simp [IntKind.max, IntKind.signed, IntKind.bits]; omega
          simp only [execOp, (aeval_sound hF h1).str_inv, (aeval_sound hF h2).str_inv, Sem.run_bind, eqGuard_str, binOp, Op.stringOp, Result.andThen_ok, if_neg hl', Sem.run_pure]
        · simp at h
      · simp at h
    · simp at h
  | unOp op t x =>
    simp only [pop] at h
    split at h
    · rename_i b h1
      simp at h; subst h
      exact ⟨_, by simp [execOp, (aeval_sound hF h1).bool_inv, Op.unary], .bool _⟩
    · rename_i k i h1
      simp at h; subst h
      exact ⟨_, by simp [execOp, (aeval_sound hF h1).int_inv, Op.unary, Op.intArith], .int _ _⟩
    · simp at h
  | convert s d x =>
    simp only [pop] at h
    split at h
    · rename_i k k' k'' i h1 h2 h3
      simp at h; subst h
      have hk1 : (ty s).kd ≠ .other := by rw [h1]; simp
      have hk2 : (ty d).kd ≠ .other := by rw [h2]; simp
      obtain ⟨d1, hd1, hu1⟩ := run_under hT hk1
      obtain ⟨d2, hd2, hu2⟩ := run_under hT hk2
      rw [h1] at hd1; rw [h2] at hd2
      simp only [KdOK] at hd1 hd2; subst hd1; subst hd2
      exact ⟨_, by simp [execOp, (aeval_sound hF h3).int_inv, convert, hu1 w, hu2 w, Conv.intToInt], .int _ _⟩
    · simp at h
  | makeInterface t x =>
    simp only [pop] at h
    split at h
    · simp at h
    · simp at h
    · rename_i v' h3 h1 h2
      simp at h; subst h
      obtain ⟨d, hd, hu⟩ := run_under hT h2
      refine ⟨.iface t (a.eval x), ?_, .iface t _ _ (aeval_sound hF h3)⟩
      simp only [execOp, Instr.makeInterface, Sem.run_bind, hu w, Result.andThen_ok]
      generalize (ty t).kd = kd at *
      cases kd <;> simp only [KdOK, ne_eq, not_true_eq_false, reduceCtorEq] at hd h1 h2
      case strct => obtain ⟨f, rfl, _⟩ := hd; rfl
      case func => obtain ⟨a, b, c, rfl⟩ := hd; rfl
      all_goals first | (exact (h1 trivial).elim) | (exact (h2 trivial).elim) | (subst hd; rfl)
    · simp at h
  | makeFunc f p q =>
    simp only [pop] at h
    split at h
    · rename_i p' q' h1 h2
      simp at h; subst h
      refine ⟨.func f (p.map a.eval) (q.map a.eval), by simp [execOp, Instr.makeFunc], VRs.fn ?_ ?_⟩
      · simpa using aevals_sound hF h1
      · simpa using aevals_sound hF h2
    · simp at h
  | extract x i =>
    simp only [pop] at h
    split at h
    · rename_i vs h1
      obtain ⟨cc, hq, hc⟩ := (aeval_sound hF h1).tup_inv
      obtain ⟨c, g1, g2⟩ := hc.get h
      simp at g1
      exact ⟨c, by simp [execOp, Instr.extract, hq, g1], g2⟩
    · simp at h
  | typeAssert x xt t ok =>
    simp only [pop] at h
    split at h
    · simp at h
    · simp at h
    · rename_i u v' h3 h1 h2
      obtain ⟨d, hd, hu⟩ := run_under hT h2
      obtain ⟨z, hz, hzr⟩ := run_zero (K := K) (n := n) hT h2
      have hx := aeval_sound hF h3
      generalize hq : a.eval x = q at hx
      cases hx with
      | iface _ _ c hc =>
        have hrun : ∀ b, (Instr.typeAssert (.iface u c) xt t b).run P w = (if u = t then Result.ok (if b then Value.tuple #[c, .bool true] else c) w else if b then .ok (.tuple #[z, .bool false]) w else (runtimePanic (.typeAssertion (some xt) (some u) t "") : Sem Value).run P w) := by
          intro b
          simp only [Instr.typeAssert, Sem.run_bind, hu w, Result.andThen_ok]
          generalize (ty t).kd = kd at *
          cases kd <;> simp only [KdOK, ne_eq, not_true_eq_false, reduceCtorEq] at hd h1 h2
          case strct => obtain ⟨f, rfl, _⟩ := hd; by_cases e : u = t <;> cases b <;> simp [e, hzr w]
          case func => obtain ⟨p1, p2, p3, rfl⟩ := hd; by_cases e : u = t <;> cases b <;> simp [e, hzr w]
          all_goals first | (exact (h1 trivial).elim) | (exact (h2 trivial).elim) | (subst hd; by_cases e : u = t <;> cases b <;> simp [e, hzr w])
        split at h
        · rename_i hok
          split at h
          · simp at h; subst h
            by_cases e : u = t
            · refine ⟨.tuple #[c, .bool true], by simp only [execOp, Sem.run_bind, hq, hrun, hok, if_pos e, Result.andThen_ok, if_true, Sem.run_pure], ?_⟩
              rw [if_pos e]
              exact VRs.tup (cs := #[c, .bool true]) (.cons hc (.cons (.bool true) .nil))
            · refine ⟨.tuple #[z, .bool false], by simp only [execOp, Sem.run_bind, hq, hrun, hok, if_neg e, Result.andThen_ok, if_true, Sem.run_pure], ?_⟩
              rw [if_neg e]
              exact VRs.tup (cs := #[z, .bool false]) (.cons hz (.cons (.bool false) .nil))
          · simp at h
        · rename_i hok
          split at h
          · rename_i e
            simp at h; subst h
            exact ⟨c, by simp only [execOp, Sem.run_bind, hq, hrun, if_pos e, Result.andThen_ok, if_neg hok, Sem.run_pure], hc⟩
          · simp at h
    · simp at h
  | slice t x lo hi mx =>
    simp only [pop] at h
    split at h
    · rename_i e tk sz xs h1 h2
      split at h
      · rename_i h' l' hh hl
        split at h
        · rename_i hb
          simp at h; subst h
          have hk : (ty t).kd ≠ .other := by rw [h1]; simp
          obtain ⟨d, hd, hu⟩ := run_under hT hk
          rw [h1] at hd
          simp only [KdOK] at hd; subst hd
          have hx := aeval_sound hF h2
          generalize hq : a.eval x = c at hx
          have hx' := hx
          cases hx' with
          | list _ _ _ ad cap f g1 g2 g3 g4 g5 g6 =>
            have hs := slice_bounds P true xs.length cap (lo.map a.eval) (hi.map a.eval) l' h' (bound_sound hF hl) (bound_sound hF hh) hb.2.2.1 hb.2.2.2.1 (by omega) w
            refine ⟨_, ?_, hx.list_take (lo := l'.toNat) (hi := h'.toNat) (by omega) (by omega)⟩
            simp only [execOp, Instr.sliceAt, Instr.slice, hq, Sem.run_bind, hu w, Result.andThen_ok, Option.map_none, hs, run_size hT (kd_of_agg hb.2.1), Sem.run_pure, hb.1]
        · simp at h
      · simp at h
    · rename_i n' e r off h1 h2
      split at h
      · rename_i hb
        simp at h; subst h
        obtain ⟨rfl, rfl, hb⟩ := hb
        have hk : (ty t).kd ≠ .other := by rw [h1]; simp
        obtain ⟨d, hd, hu⟩ := run_under hT hk
        rw [h1] at hd
        simp only [KdOK] at hd; subst hd
        have hx := aeval_sound hF h2
        generalize hq : a.eval x = c at hx
        cases hx with
        | ptr _ _ hr =>
          have hs := slice_bounds P false n' n' none none 0 n' (.inl ⟨rfl, rfl⟩) (.inl ⟨rfl, rfl⟩) (by omega) (by omega) (by omega) w
          refine ⟨_, ?_, .arr r off n' (some ⟨K.φ r, off, none⟩) n' hr (Nat.le_refl _) (.inr rfl)⟩
          simp only [execOp, Instr.sliceAt, hq, Instr.sureAddr, Sem.run_bind, Sem.run_pure, hu w, Result.andThen_ok, Option.map_none, hs, run_size hT (kd_of_agg hb)]
          simp [addr_add]
      · simp at h
    · rename_i s h1 h2
      split at h
      · rename_i h' l' hh hl
        split at h
        · rename_i hb
          simp at h; subst h
          have hk : (ty t).kd ≠ .other := by rw [h1]; simp
          obtain ⟨d, hd, hu⟩ := run_under hT hk
          rw [h1] at hd
          simp only [KdOK] at hd; subst hd
          have hs := slice_bounds P false s.size s.size (lo.map a.eval) (hi.map a.eval) l' h' (bound_sound hF hl) (bound_sound hF hh) hb.1 hb.2.1 hb.2.2 w
          refine ⟨_, ?_, .str _⟩
          simp [execOp, Instr.sliceAt, Instr.slice, (aeval_sound hF h2).str_inv, hu w, hs]
        · simp at h
      · simp at h
    · simp at h
  | call c =>
    obtain ⟨callee, args, ats⟩ := c
    cases callee with
    | builtin b =>
      simp only [pop] at h
      split at h
      · rename_i v' h1
        split at h
        · rename_i t ht
          cases hm : lenA (ty t).kd v' with
          | none => rw [hm] at h; simp at h
          | some m =>
          rw [hm] at h
          simp at h; subst h
          have hv := aevals_sound hF h1
          have hl : args.toList.length = 1 := by have := hv.1; simp at this; simpa using this.symm
          obtain ⟨x, hx⟩ := List.length_eq_one_iff.1 hl
          have hx' : args = #[x] := by apply Array.ext'; simpa using hx
          subst hx'
          simp at hv
          have := lenA_sound (hT := hT) hm hv.head ats ht type w
          exact ⟨_, by simp [execOp, resolve, invoke, builtin, this], .int _ _⟩
        · simp at h
      · rename_i vs h1
        have hv := aevals_sound hF h1
        cases vs with
        | nil => simp [maxA] at h
        | cons y ys =>
          cases y with
          | int k i =>
            cases hl : args.toList with
            | nil => have := hv.1; rw [hl] at this; simp at this
            | cons x xs =>
              rw [hl] at hv
              have g1 := hv.head.int_inv
              obtain ⟨c, g2, g3⟩ := maxL_sound (K := K) (P := P) h hv.tail w
              refine ⟨c, ?_, g3⟩
              simp [execOp, resolve, invoke, builtin, Builtin.max_, hl, g1, g2]
          | _ => simp [maxA] at h
      · rename_i vs h1
        have hv := aevals_sound hF h1
        cases vs with
        | nil => simp [minA] at h
        | cons y ys =>
          cases y with
          | int k i =>
            cases hl : args.toList with
            | nil => have := hv.1; rw [hl] at this; simp at this
            | cons x xs =>
              rw [hl] at hv
              have g1 := hv.head.int_inv
              obtain ⟨c, g2, g3⟩ := minL_sound (K := K) (P := P) h hv.tail w
              refine ⟨c, ?_, g3⟩
              simp [execOp, resolve, invoke, builtin, Builtin.min_, hl, g1, g2]
          | _ => simp [minA] at h
      · simp at h
    | _ => simp [pop] at h
  | _ => simp [pop] at h

end Go.Mu
set_option linter.unusedSimpArgs false
set_option linter.unusedVariables false
namespace Go.Mu
open Go

variable {P : Program} {K : Kr} {n N : Nat} {ty : Nat → TI}

theorem heap_alloc_old (w : World) (o : Obj) (k : Nat) (h : k < w.heap.size) : (w.alloc o).heap[k]? = w.heap[k]? := by
  show (w.heap.push o)[k]? = _
  rw [Array.getElem?_push, if_neg (by omega)]
theorem heap_alloc_new (w : World) (o : Obj) : (w.alloc o).heap[w.heap.size]? = some o := by
  show (w.heap.push o)[w.heap.size]? = _
  rw [Array.getElem?_push, if_pos rfl]
theorem heap_alloc_size (w : World) (o : Obj) : (w.alloc o).heap.size = w.heap.size + 1 := by
  show (w.heap.push o).size = _
  simp
theorem cell_of_heap {w w' : World} {b o : Nat} (h : w'.heap[b]? = w.heap[b]?) : w'.cell? ⟨b, o, none⟩ = w.cell? ⟨b, o, none⟩ := by
  simp only [World.cell?, h]

theorem lt_of_heap {w : World} {b : Nat} {o : Obj} (h : w.heap[b]? = some o) : b < w.heap.size := (Array.getElem?_eq_some_iff.1 h).1
theorem lt_of_cell {w : World} {b o : Nat} {v : Value} (h : w.cell? ⟨b, o, none⟩ = some v) : b < w.heap.size := by
  unfold World.cell? at h
  cases hb : w.heap[b]? with
  | none => simp [hb] at h
  | some x => exact lt_of_heap hb

theorem R.lt {σ : List AObj} {w : World} (h : R K σ w) {b o : Nat} {v : Value} (hS : K.S b o = some v) : b < w.heap.size := lt_of_cell (h.stab b o v hS)

theorem ObjR.blk_lt {w : World} {r b : Nat} {o : AObj} (h : ObjR K n w r o) (hb : ObjBlk K r o b) : b < w.heap.size := by
  cases o with
  | cells cs => obtain ⟨cc, E, h1, _⟩ := h; rw [show b = K.φ r from hb]; exact lt_of_heap h1
  | tail m sz =>
    obtain ⟨a, cap, h1, h2, _, h3⟩ := h
    obtain ⟨a', cap', g1, g2, rfl⟩ := hb
    rw [h1] at g1; simp at g1; obtain ⟨rfl, rfl⟩ := g1
    obtain ⟨b, o, cc, E, h4, h5, _⟩ := h3 g2
    simp at h4; subst h4
    exact lt_of_heap h5
  | map es => obtain ⟨cc, E, h1, _⟩ := h; rw [show b = K.φ r from hb]; exact lt_of_heap h1
  | iter m c s => obtain ⟨cc, h1, _⟩ := h; rw [show b = K.φ r from hb]; exact lt_of_heap h1
  | siter s p => have h1 : w.heap[K.φ r]? = some (.stringIter s p) := h; rw [show b = K.φ r from hb]; exact lt_of_heap h1
  | loop => obtain ⟨cc, h1, _⟩ := h; rw [show b = K.φ r from hb]; exact lt_of_heap h1
  | vec sz xs =>
    obtain ⟨a, cap, h1, h2, _, _, h3⟩ := h
    obtain ⟨a', cap', g1, g2, rfl⟩ := hb
    rw [h1] at g1; simp at g1; obtain ⟨rfl, rfl⟩ := g1
    obtain ⟨b, o, cc, E, h4, h5, _⟩ := h3 g2
    simp at h4; subst h4
    exact lt_of_heap h5
  | dead => exact hb.elim

/-- An object lies on where its block, and what is stable, lie on. -/
theorem ObjR.mono {K K' : Kr} {n n' : Nat} {w w' : World} {r : Nat} {o : AObj} (h : ObjR K n w r o) (hr : r < n) (he : Ext n K K') (hn : n ≤ n') (htl : K'.tl r = K.tl r)
    (hb : ∀ b, ObjBlk K r o b → w'.heap[b]? = w.heap[b]? ∧ ∀ p, K'.S b p = K.S b p) : ObjR K' n' w' r o := by
  cases o with
  | cells cs =>
    obtain ⟨cc, E, h1, h2, h3, h4⟩ := h
    obtain ⟨g1, g2⟩ := hb (K.φ r) rfl
    refine ⟨cc, E, ?_, h2.mono he hn, h3, fun o => ?_⟩
    · rw [he.φ r hr, g1]; exact h1
    · rw [he.φ r hr, g2]; exact h4 o
  | tail m sz =>
    obtain ⟨a, cap, h1, h2, h2', h3⟩ := h
    refine ⟨a, cap, he.tl r hr _ _ h1, h2, by rw [htl]; exact h2', fun hc => ?_⟩
    obtain ⟨b, o, cc, E, rfl, h4, h5, h6⟩ := h3 hc
    obtain ⟨g1, g2⟩ := hb b ⟨_, cap, h1, hc, rfl⟩
    exact ⟨b, o, cc, E, rfl, by rw [g1]; exact h4, h5, fun p hp => by rw [g2]; exact h6 p hp⟩
  | map es =>
    obtain ⟨es', clock, h1, h2⟩ := h
    obtain ⟨g1, g2⟩ := hb (K.φ r) rfl
    exact ⟨es', clock, by rw [he.φ r hr, g1]; exact h1, h2.1, h2.2.1, fun i a b => by
      obtain ⟨k1, k2, k3⟩ := h2.2.2 i a b
      exact ⟨k1.mono he hn, k2.mono he hn, k3⟩⟩
  | iter m c s =>
    obtain ⟨m', h1, h2⟩ := h
    obtain ⟨g1, g2⟩ := hb (K.φ r) rfl
    refine ⟨m', by rw [he.φ r hr, g1]; exact h1, ?_⟩
    cases m with
    | none => exact h2
    | some q => exact ⟨by have := h2.1; omega, by rw [he.φ q h2.1]; exact h2.2⟩
  | siter s p =>
    obtain ⟨g1, g2⟩ := hb (K.φ r) rfl
    show w'.heap[K'.φ r]? = _
    rw [he.φ r hr, g1]; exact h
  | loop st pend fn params assign body N fr =>
    obtain ⟨l, h1, h2, h3, h4, h5, h6, h7, h8⟩ := h
    obtain ⟨g1, g2⟩ := hb (K.φ r) rfl
    exact ⟨l, by rw [he.φ r hr, g1]; exact h1, h2, h3, h4, h5, h6, h7, h8.mono he hn⟩
  | vec sz xs =>
    obtain ⟨a, cap, h1, h2, h2', h2'', h3⟩ := h
    refine ⟨a, cap, he.tl r hr _ _ h1, h2, by rw [htl]; exact h2', h2'', fun hc => ?_⟩
    obtain ⟨b, o, cc, E, rfl, h4, h5, h6, h7, h8⟩ := h3 hc
    obtain ⟨g1, g2⟩ := hb b ⟨_, cap, h1, hc, rfl⟩
    exact ⟨b, o, cc, E, rfl, by rw [g1]; exact h4, h5, h6.mono he hn, h7, fun p => by rw [g2]; exact h8 p⟩
  | dead => trivial

theorem ObjBlk.ext {K K' : Kr} {n : Nat} {w : World} {r b : Nat} {o : AObj} (hr : r < n) (he : Ext n K K') (hO : ObjR K n w r o) (h : ObjBlk K' r o b) : ObjBlk K r o b := by
  cases o with
  | cells cs => exact (show b = K'.φ r from h).trans (he.φ r hr)
  | tail m sz =>
    obtain ⟨a, cap, h1, _⟩ := hO
    obtain ⟨a', cap', g1, g2, g3⟩ := h
    have := he.tl r hr _ _ h1
    rw [this] at g1; simp at g1; obtain ⟨rfl, rfl⟩ := g1
    exact ⟨a', cap, h1, g2, g3⟩
  | map es => exact (show b = K'.φ r from h).trans (he.φ r hr)
  | iter m c s => exact (show b = K'.φ r from h).trans (he.φ r hr)
  | siter s p => exact (show b = K'.φ r from h).trans (he.φ r hr)
  | loop => exact (show b = K'.φ r from h).trans (he.φ r hr)
  | vec sz xs =>
    obtain ⟨a, cap, h1, _⟩ := hO
    obtain ⟨a', cap', g1, g2, g3⟩ := h
    have := he.tl r hr _ _ h1
    rw [this] at g1; simp at g1; obtain ⟨rfl, rfl⟩ := g1
    exact ⟨a', cap, h1, g2, g3⟩
  | dead => exact h

theorem frz_alloc {w : World} {co : Obj} (hco : frz (some co) = (0, 0)) (b : Nat) : frz (w.alloc co).heap[b]? = frz w.heap[b]? := by
  by_cases h : b < w.heap.size
  · rw [heap_alloc_old w co b h]
  · have h0 : w.heap[b]? = none := by simp; omega
    rw [h0]
    by_cases e : b = w.heap.size
    · subst e
      have : (w.alloc co).heap[w.heap.size]? = some co := heap_alloc_new w co
      rw [this, hco]; rfl
    · have : (w.alloc co).heap[b]? = none := by
        have := heap_alloc_size w co
        simp; omega
      rw [this]
/-- A new block of the world; an object, a new one or one that was there, lives in it. -/
theorem R.newAt {σ σ' : List AObj} {w : World} (h : R K σ w) (r : Nat) (o : AObj) (co : Obj) (K' : Kr) (he : Ext σ.length K K')
    (hlen : σ.length ≤ σ'.length) (hlen' : r < σ'.length) (hro : σ'[r]? = some o) (hrest : ∀ q o', q ≠ r → σ'[q]? = some o' → σ[q]? = some o')
    (htl : ∀ q, q ≠ r → K'.tl q = K.tl q)
    (hS : ∀ b p v, K'.S b p = some v → K.S b p = some v ∨ (b = w.heap.size ∧ (w.alloc co).cell? ⟨b, p, none⟩ = some v))
    (hB : ∀ b, ObjBlk K' r o b → b = w.heap.size)
    (hO : ObjR K' σ'.length (w.alloc co) r o) : R K' σ' (w.alloc co) ∧ Step K σ w K' σ' (w.alloc co) := by
  have hold : ∀ b p, b < w.heap.size → K'.S b p = K.S b p := fun b p hb => by
    cases hk : K.S b p with
    | some v => exact he.S _ _ _ hk
    | none =>
      cases hk' : K'.S b p with
      | none => rfl
      | some v =>
        rcases hS b p v hk' with h1 | ⟨h1, _⟩
        · rw [hk] at h1; cases h1
        · omega
  have hlt : ∀ {r o}, σ[r]? = some o → r < σ.length := fun h => (List.getElem?_eq_some_iff.1 h).1
  have hget : ∀ q o', σ'[q]? = some o' → (q ≠ r ∧ σ[q]? = some o') ∨ (q = r ∧ o' = o) := fun q o' hq => by
    by_cases e : q = r
    · subst e; rw [hro] at hq; simp at hq; exact .inr ⟨rfl, hq.symm⟩
    · exact .inl ⟨e, hrest q o' e hq⟩
  refine andS (fun hs => ⟨fun b p v hv => ?_, fun q o' hq => ?_, fun q q' o1 o2 b h1 h2 b1 b2 => ?_, h.layS hs⟩) ?_
  · rcases hS b p v hv with h1 | ⟨_, h1⟩
    · rw [cell_of_heap (heap_alloc_old w co b (h.lt h1))]; exact h.stab b p v h1
    · exact h1
  · rcases hget q o' hq with ⟨e, h1⟩ | ⟨rfl, rfl⟩
    · have hO' := h.obj q o' h1
      exact hO'.mono (hlt h1) he hlen (htl q e) fun b hb => ⟨heap_alloc_old w co b (hO'.blk_lt hb), fun p => hold b p (hO'.blk_lt hb)⟩
    · exact hO
  · rcases hget q o1 h1 with ⟨e1, g1⟩ | ⟨rfl, rfl⟩ <;> rcases hget q' o2 h2 with ⟨e2, g2⟩ | ⟨rfl, rfl⟩
    · exact h.inj q q' o1 o2 b g1 g2 (b1.ext (hlt g1) he (h.obj q o1 g1)) (b2.ext (hlt g2) he (h.obj q' o2 g2))
    · have := (h.obj q o1 g1).blk_lt (b1.ext (hlt g1) he (h.obj q o1 g1))
      have := hB b b2; omega
    · have := (h.obj q' o2 g2).blk_lt (b2.ext (hlt g2) he (h.obj q' o2 g2))
      have := hB b b1; omega
    · rfl
  · refine ⟨he, hlen, by rw [heap_alloc_size]; omega, fun b hb hf => ⟨heap_alloc_old w co b hb, fun q o' hq hb' => ?_, fun p => hold b p hb⟩, rfl, rfl, rfl, fun b hb => by rw [heap_alloc_old w co b hb]⟩
    rcases hget q o' hq with ⟨e, g1⟩ | ⟨rfl, rfl⟩
    · exact hf q o' g1 (hb'.ext (hlt g1) he (h.obj q o' g1))
    · have := hB b hb'; omega

/-- A new block of the world, and a new object in it. -/
theorem R.new {σ : List AObj} {w : World} (h : R K σ w) (o : AObj) (co : Obj) (K' : Kr) (he : Ext σ.length K K') (htl : ∀ q, q ≠ σ.length → K'.tl q = K.tl q)
    (hS : ∀ b p v, K'.S b p = some v → K.S b p = some v ∨ (b = w.heap.size ∧ (w.alloc co).cell? ⟨b, p, none⟩ = some v))
    (hB : ∀ b, ObjBlk K' σ.length o b → b = w.heap.size)
    (hO : ObjR K' (σ.length + 1) (w.alloc co) σ.length o) : R K' (σ ++ [o]) (w.alloc co) ∧ Step K σ w K' (σ ++ [o]) (w.alloc co) :=
  h.newAt σ.length o co K' he (by simp) (by simp) (by simp) (fun q o' hq hg => by
    rw [List.getElem?_append] at hg
    split at hg
    · exact hg
    · cases hk : q - σ.length with
      | zero => omega
      | succ j => rw [hk] at hg; simp at hg) htl hS hB (by simpa using hO)

/-- A new object that takes no block; or one that was there takes none any more. -/
theorem R.ghostAt {σ σ' : List AObj} {w : World} (h : R K σ w) (r : Nat) (o : AObj) (K' : Kr) (he : Ext σ.length K K')
    (hlen : σ.length ≤ σ'.length) (hro : σ'[r]? = some o) (hrest : ∀ q o', q ≠ r → σ'[q]? = some o' → σ[q]? = some o')
    (htl : ∀ q, q ≠ r → K'.tl q = K.tl q) (hS : K'.S = K.S)
    (hB : ∀ b, ¬ ObjBlk K' r o b) (hO : ObjR K' σ'.length w r o) : R K' σ' w ∧ Step K σ w K' σ' w := by
  have hlt : ∀ {r o}, σ[r]? = some o → r < σ.length := fun h => (List.getElem?_eq_some_iff.1 h).1
  have hget : ∀ q o', σ'[q]? = some o' → (q ≠ r ∧ σ[q]? = some o') ∨ (q = r ∧ o' = o) := fun q o' hq => by
    by_cases e : q = r
    · subst e; rw [hro] at hq; simp at hq; exact .inr ⟨rfl, hq.symm⟩
    · exact .inl ⟨e, hrest q o' e hq⟩
  refine andS (fun hs => ⟨fun b p v hv => h.stab b p v (by rw [← hS]; exact hv), fun q o' hq => ?_, fun q q' o1 o2 b h1 h2 b1 b2 => ?_, h.layS hs⟩) ?_
  · rcases hget q o' hq with ⟨e, h1⟩ | ⟨rfl, rfl⟩
    · exact (h.obj q o' h1).mono (hlt h1) he hlen (htl q e) fun b hb => ⟨rfl, fun p => by rw [hS]⟩
    · exact hO
  · rcases hget q o1 h1 with ⟨e1, g1⟩ | ⟨rfl, rfl⟩
    · rcases hget q' o2 h2 with ⟨e2, g2⟩ | ⟨rfl, rfl⟩
      · exact h.inj q q' o1 o2 b g1 g2 (b1.ext (hlt g1) he (h.obj q o1 g1)) (b2.ext (hlt g2) he (h.obj q' o2 g2))
      · exact absurd b2 (hB b)
    · exact absurd b1 (hB b)
  · refine ⟨he, hlen, Nat.le_refl _, fun b hb hf => ⟨rfl, fun q o' hq hb' => ?_, fun p => by rw [hS]⟩, rfl, rfl, rfl, fun _ _ => rfl⟩
    rcases hget q o' hq with ⟨e, g1⟩ | ⟨rfl, rfl⟩
    · exact hf q o' g1 (hb'.ext (hlt g1) he (h.obj q o' g1))
    · exact hB b hb'

/-- A new block of the world that holds a list's cells, and no object. -/
theorem R.newS {σ : List AObj} {w : World} (h : R K σ w) (co : Obj) (K' : Kr) (he : Ext σ.length K K') (htl : K'.tl = K.tl)
    (hS : ∀ b p v, K'.S b p = some v → K.S b p = some v ∨ (b = w.heap.size ∧ (w.alloc co).cell? ⟨b, p, none⟩ = some v)) : R K' σ (w.alloc co) ∧ Step K σ w K' σ (w.alloc co) := by
  have hold : ∀ b p, b < w.heap.size → K'.S b p = K.S b p := fun b p hb => by
    cases hk : K.S b p with
    | some v => exact he.S _ _ _ hk
    | none =>
      cases hk' : K'.S b p with
      | none => rfl
      | some v =>
        rcases hS b p v hk' with h1 | ⟨h1, _⟩
        · rw [hk] at h1; cases h1
        · omega
  have hlt : ∀ {r o}, σ[r]? = some o → r < σ.length := fun h => (List.getElem?_eq_some_iff.1 h).1
  refine andS (fun hs => ⟨fun b p v hv => ?_, fun r o' hr => ?_, fun r r' o1 o2 b h1 h2 b1 b2 => ?_, h.layS hs⟩) ?_
  · rcases hS b p v hv with h1 | ⟨_, h1⟩
    · rw [cell_of_heap (heap_alloc_old w co b (h.lt h1))]; exact h.stab b p v h1
    · exact h1
  · have hO' := h.obj r o' hr
    exact hO'.mono (hlt hr) he (Nat.le_refl _) (by rw [htl]) fun b hb => ⟨heap_alloc_old w co b (hO'.blk_lt hb), fun p => hold b p (hO'.blk_lt hb)⟩
  · exact h.inj r r' o1 o2 b h1 h2 (b1.ext (hlt h1) he (h.obj r o1 h1)) (b2.ext (hlt h2) he (h.obj r' o2 h2))
  · exact ⟨he, Nat.le_refl _, by rw [heap_alloc_size]; omega, fun b hb hf => ⟨heap_alloc_old w co b hb, fun r o' hr hb' => hf r o' hr (hb'.ext (hlt hr) he (h.obj r o' hr)), fun p => hold b p hb⟩, rfl, rfl, rfl, fun b hb => by rw [heap_alloc_old w co b hb]⟩

/-- The block of a live object is turned, and nothing else. -/
theorem R.turn {σ : List AObj} {w w' : World} (h : R K σ w) {r : Nat} {o o' : AObj} (hr : σ[r]? = some o) (b0 : Nat) (hb0 : ObjBlk K r o b0) (K' : Kr) (he : Ext σ.length K K') (htl : ∀ q, q ≠ r → K'.tl q = K.tl q)
    (hh : ∀ b, b ≠ b0 → w'.heap[b]? = w.heap[b]?) (hsz : w'.heap.size = w.heap.size) (hS : ∀ b p, b ≠ b0 → K'.S b p = K.S b p)
    (hst : ∀ p v, K'.S b0 p = some v → w'.cell? ⟨b0, p, none⟩ = some v)
    (hB : ∀ b, ObjBlk K' r o' b → b = b0) (hO : ObjR K' σ.length w' r o') (h1 : w'.os = w.os) (h2 : w'.tape = w.tape) (h3 : w'.output = w.output) (h4 : frz w'.heap[b0]? = frz w.heap[b0]? := by rfl) :
    R K' (σ.set r o') w' ∧ Step K σ w K' (σ.set r o') w' := by
  have hlt : ∀ {r o}, σ[r]? = some o → r < σ.length := fun h => (List.getElem?_eq_some_iff.1 h).1
  have hget : ∀ q o1, (σ.set r o')[q]? = some o1 → (q = r ∧ o1 = o') ∨ (q ≠ r ∧ σ[q]? = some o1) := fun q o1 hq => by
    rw [List.getElem?_set] at hq
    by_cases e : r = q
    · subst e; rw [if_pos rfl] at hq; rw [if_pos (hlt hr)] at hq; simp at hq; exact .inl ⟨rfl, hq.symm⟩
    · rw [if_neg e] at hq; exact .inr ⟨fun x => e x.symm, hq⟩
  have hne : ∀ q o1, q ≠ r → σ[q]? = some o1 → ∀ b, ObjBlk K q o1 b → b ≠ b0 := fun q o1 hq h1 b hb e => by
    subst e; exact hq (h.inj q r o1 o b h1 hr hb hb0)
  refine andS (fun hs => ⟨fun b p v hv => ?_, fun q o1 hq => ?_, fun q q' o1 o2 b g1 g2 b1 b2 => ?_, h.layS hs⟩) ?_
  · by_cases e : b = b0
    · subst e; exact hst p v hv
    · rw [hS b p e] at hv; rw [cell_of_heap (hh b e)]; exact h.stab b p v hv
  · rw [List.length_set]
    rcases hget q o1 hq with ⟨rfl, rfl⟩ | ⟨hq', g⟩
    · exact hO
    · exact (h.obj q o1 g).mono (hlt g) he (Nat.le_refl _) (htl q hq') fun b hb => ⟨hh b (hne q o1 hq' g b hb), fun p => hS b p (hne q o1 hq' g b hb)⟩
  · rcases hget q o1 g1 with ⟨rfl, rfl⟩ | ⟨e1, k1⟩ <;> rcases hget q' o2 g2 with ⟨rfl, rfl⟩ | ⟨e2, k2⟩
    · rfl
    · have := hB b b1
      exact absurd this (hne q' o2 e2 k2 b (b2.ext (hlt k2) he (h.obj q' o2 k2)))
    · have := hB b b2
      exact absurd this (hne q o1 e1 k1 b (b1.ext (hlt k1) he (h.obj q o1 k1)))
    · exact h.inj q q' o1 o2 b k1 k2 (b1.ext (hlt k1) he (h.obj q o1 k1)) (b2.ext (hlt k2) he (h.obj q' o2 k2))
  · refine ⟨he, by simp, by omega, fun b hb hf => ?_, h1, h2, h3, fun b _ => by
      by_cases e : b = b0
      · subst e; exact h4
      · rw [hh b e]⟩
    have e : b ≠ b0 := fun e => hf r o hr (e ▸ hb0)
    refine ⟨hh b e, fun q o1 hq hb' => ?_, fun p => hS b p e⟩
    rcases hget q o1 hq with ⟨rfl, rfl⟩ | ⟨e1, k1⟩
    · exact e (hB b hb')
    · exact hf q o1 k1 (hb'.ext (hlt k1) he (h.obj q o1 k1))

end Go.Mu
set_option linter.unusedSimpArgs false
set_option linter.unusedVariables false
namespace Go.Mu
open Go

/-- An object, an object turned. -/
def hget (σ : List AObj) (r : Nat) : Option AObj := σ[r]?
def hset (σ : List AObj) (r : Nat) (o : AObj) : List AObj := σ.set r o

/-- Keys of maps: whether two are equal; where one is. -/
def keyEq : AV → AV → Option Bool
  | .int k a, .int k' b => if k = k' then some (a == b) else none
  | .str a, .str b => some (a == b)
  | .agg a, .agg b => match intsA a, intsA b with
    | some x, some y => if a.length = b.length then some (x == y) else none
    | _, _ => none
  | _, _ => none
def findA (k : AV) : List (AV × AV) → Nat → Option (Option (Nat × AV))
  | [], _ => some none
  | (k', v) :: es, i => match keyEq k k' with
    | some true => some (some (i, v))
    | some false => findA k es (i + 1)
    | none => none
def keyI : AV → Bool
  | .int _ _ => true
  | _ => false
def isInt : TK → Bool
  | .int _ => true
  | _ => false
def isStrK : TK → Bool
  | .str => true
  | _ => false
def keyOK (i : TI) : AV → Bool
  | .int _ _ => isInt i.kd
  | .str _ => isStrK i.kd
  | .agg cs => i.keyn && (cs.length == i.sz && (intsA cs).isSome)
  | _ => false
def lookR (ok : Bool) (z : AV) (σ : List AObj) : Option (Option (Nat × AV)) → Option (AV × List AObj)
  | some (some (_, v)) => some (if ok then .tup [v, .bool true] else v, σ)
  | some none => some (if ok then .tup [z, .bool false] else z, σ)
  | none => none
def updR (r : Nat) (es : List (AV × AV)) (k v : AV) (σ : List AObj) : Option (Option (Nat × AV)) → Option (AV × List AObj)
  | some (some (i, _)) => some (.tup [], hset σ r (.map (es.set i (k, v))))
  | some none => some (.tup [], hset σ r (.map (es ++ [(k, v)])))
  | none => none

def appA (e : TI) (σ : List AObj) (t : Tok) (sz : Nat) (xs : List AV) (sz' : Nat) (ys : List AV) : Option (AV × List AObj) :=
  if e.kd.agg.isSome ∧ 0 < e.sz ∧ e.bytes ≤ 4096 ∧ e.zero.cells.length = e.sz ∧ (sz = e.sz ∨ xs = []) ∧ (sz' = e.sz ∨ ys = []) ∧ xs.length + ys.length ≤ 4294967296 then
    match t with
    | .no => none
    | .full => some (.list (.own σ.length) e.sz (xs ++ ys), σ ++ [.tail (xs.length + ys.length) e.sz])
    | .own id => match hget σ id with
      | some (.tail m s) => if m = xs.length ∧ s = e.sz then some (.list (.own id) e.sz (xs ++ ys), hset σ id (.tail (xs.length + ys.length) e.sz)) else none
      | _ => none
  else none

/-- An append to a slice that is written into. -/
def appV (e : TI) (σ : List AObj) (r len : Nat) (sz' : Nat) (ys : List AV) : Option (AV × List AObj) :=
  match hget σ r with
  | some (.vec sz xs) =>
    if e.kd.agg.isSome ∧ 0 < e.sz ∧ e.bytes ≤ 4096 ∧ e.zero.cells.length = e.sz ∧ sz = e.sz ∧ (sz' = e.sz ∨ ys = []) ∧ xs.length = len ∧ len + ys.length ≤ 4294967296 then
      some (.vec r (len + ys.length), hset σ r (.vec sz (xs ++ ys)))
    else none
  | _ => none
/-- The first append to an empty list: a slice that is written into. -/
def appF (e : TI) (σ : List AObj) (sz' : Nat) (ys : List AV) : Option (AV × List AObj) :=
  if e.kd.agg.isSome ∧ 0 < e.sz ∧ e.bytes ≤ 4096 ∧ e.zero.cells.length = e.sz ∧ (sz' = e.sz ∨ ys = []) ∧ ys.length ≤ 4294967296 then
    some (.vec σ.length ys.length, σ ++ [.vec e.sz ys])
  else none
def appB (vc : Bool) (e : TI) (σ : List AObj) (t : Tok) (sz : Nat) (xs : List AV) (sz' : Nat) (ys : List AV) : Option (AV × List AObj) :=
  match vc, t, xs with
  | true, .full, [] => appF e σ sz' ys
  | _, _, _ => appA e σ t sz xs sz' ys
/-- A load, a store of a part of an element. -/
def loadV (off sz : Nat) (ag : Option Bool) (σ : List AObj) : Option AV → Option (AV × List AObj)
  | some x => (subAt off sz x.cells ag).map fun v => (v, σ)
  | none => none
def storeV (r i off : Nat) (sz : Nat) (xs : List AV) (new : List AV) (σ : List AObj) : Option AV → Option (AV × List AObj)
  | some x => if x.flat then some (.tup [], hset σ r (.vec sz (xs.set i (ofCells x (putAt off new x.cells))))) else none
  | none => none

/-- The entry at which a range over a map stands. -/
def entR (σ : List AObj) : Option AObj → Option (AV × List AObj)
  | some (.iter (some q) c seen) => match hget σ q, seen.getLast? with
    | some (.map es), some i => if c = es.length then (es[i]?).map fun p => (.tup [p.1, p.2], σ) else none
    | _, _ => none
  | _ => none
/-- Bytes out of elements. -/
def bytesL : List AV → Option (List Int)
  | [] => some []
  | .int .u8 n :: l => (bytesL l).map (n :: ·)
  | _ => none
/-- A string made of bytes. -/
def cvO (ty : Nat → TI) (fr : Fr) (s d : TypeId) (x : Operand) : Option AV := match (ty s).kd, (ty d).kd, aeval fr x with
  | .slice e, .str, some (.list _ sz xs) => if (ty e).kd = .int .u8 ∧ (sz = 1 ∨ xs = []) then (bytesL xs).map fun b => .str (strOfNums b) else none
  | _, _, _ => none
/-- The one cell of an element. -/
def oneA (x : AV) : AV := x.cells.headD x
/-- An operation that makes or turns objects, or loads. -/
def hop (ty : Nat → TI) (fr : Fr) (σ : List AObj) : Op → Option (AV × List AObj)
  | .alloc t => if (ty t).kd.agg.isSome then some (.ptr σ.length 0, σ ++ [.cells (ty t).zero.cells]) else none
  | .box _ x => match aeval fr x with
    | some v => if v.flat then some (.ptr σ.length 0, σ ++ [.cells v.cells]) else none
    | none => none
  | .load t x => match aeval fr x with
    | some (.ptr r off) => match hget σ r with
      | some (.cells cs) => (subAt off (ty t).sz cs (ty t).kd.agg).map fun v => (v, σ)
      | _ => none
    | some (.eptr cs off) => (subAt off (ty t).sz cs (ty t).kd.agg).map fun v => (v, σ)
    | some (.vptr r m sz i off) => match hget σ r with
      | some (.vec sz' xs) => if xs.length = m ∧ sz' = sz then loadV off (ty t).sz (ty t).kd.agg σ (xs[i]?) else none
      | _ => none
    | _ => none
  | .store t x y => match aeval fr x, aeval fr y with
    | some (.ptr r off), some v => match hget σ r with
      | some (.cells cs) => if (ty t).kd.agg.isSome ∧ v.flat ∧ v.cells.length = (ty t).sz ∧ off + v.cells.length ≤ cs.length then some (.tup [], hset σ r (.cells (putAt off v.cells cs))) else none
      | _ => none
    | some (.vptr r m sz i off), some v => match hget σ r with
      | some (.vec sz' xs) => if xs.length = m ∧ sz' = sz ∧ (ty t).kd.agg.isSome ∧ v.flat ∧ v.cells.length = (ty t).sz ∧ off + v.cells.length ≤ sz then storeV r i off sz xs v.cells σ (xs[i]?) else none
      | _ => none
    | _, _ => none
  | .call { callee := .builtin .append, args, argTypes } => match aevals fr args.toList, argTypes[0]?, argTypes[1]? with
    | some [.list t sz xs, .list _ sz' ys], some t0, some t1 => match (ty t0).kd, (ty t1).kd with
      | .slice e, .slice _ => appB (ty t0).vc (ty e) σ t sz xs sz' ys
      | _, _ => none
    | some [.vec r len, .list _ sz' ys], some t0, some t1 => match (ty t0).kd, (ty t1).kd with
      | .slice e, .slice _ => appV (ty e) σ r len sz' ys
      | _, _ => none
    | _, _, _ => none
  | .call { callee := .builtin .copy, args, argTypes } => match aevals fr args.toList, argTypes[0]? with
    | some [.arr r off len, .list _ sz xs], some t0 => match (ty t0).kd, hget σ r with
      | .slice e, some (.cells cs) => if (ty e).kd.agg.isSome ∧ (ty e).sz = 1 ∧ (sz = 1 ∨ xs = []) ∧ 0 < len ∧ off + len ≤ cs.length then some (.int .i64 (min xs.length len : Nat), hset σ r (.cells (putAt off ((xs.take len).map oneA) cs))) else none
      | _, _ => none
    | _, _ => none
  | .makeSlice t l c => match (ty t).kd, aeval fr l, aeval fr c with
    | .slice e, some (.int _ l), some (.int _ c) => if l = c ∧ 0 ≤ l ∧ l ≤ 1048576 ∧ (ty e).kd.agg.isSome ∧ (ty e).bytes ≤ 4096 ∧ 0 < (ty e).sz ∧ (ty e).zero.cells.length = (ty e).sz then
        some (.vec σ.length l.toNat, σ ++ [.vec (ty e).sz (List.replicate l.toNat (ty e).zero)])
      else none
    | _, _, _ => none
  | .makeMap t none => match (ty t).kd with
    | .map _ _ => some (.map σ.length, σ ++ [.map []])
    | _ => none
  | .lookup t m k ok => match (ty t).kd, aeval fr m, aeval fr k with
    | .map kt et, some (.map r), some key => match hget σ r with
      | some (.map es) => if keyOK (ty kt) key = true ∧ (ty et).kd ≠ .other ∧ (ty et).zero.flat = true then lookR ok (ty et).zero σ (findA key es 0) else none
      | _ => none
    | _, _, _ => none
  | .mapUpdate t m k x => match (ty t).kd, aeval fr m, aeval fr k, aeval fr x with
    | .map kt et, some (.map r), some key, some v => match hget σ r with
      | some (.map es) => if keyOK (ty kt) key = true then updR r es key v σ (findA key es 0) else none
      | _ => none
    | _, _, _, _ => none
  | .range t m => match (ty t).kd, aeval fr m with
    | .map _ _, some (.map r) => match hget σ r with
      | some (.map es) => some (.ptr σ.length 0, σ ++ [.iter (some r) es.length []])
      | _ => none
    | .str, some (.str s) => some (.ptr σ.length 0, σ ++ [.siter s 0])
    | _, _ => none
  | .convert s d x => (cvO ty fr s d x).map fun v => (v, σ)
  | .entry it => match aeval fr it with
    | some (.ptr r 0) => entR σ (hget σ r)
    | _ => none
  | _ => none

variable {P : Program} {K : Kr} {n N : Nat} {ty : Nat → TI}

/-- What an operation does, in the model. -/
def OpDone (P : Program) (K : Kr) (σ : List AObj) (w : World) (run : Result Next) (v : AV) (σ' : List AObj) : Prop :=
  ∃ c K' w', (run = .ok (.value c) w' ∨ (run = .ok .skip w' ∧ c = undef)) ∧ VR K' σ'.length v c ∧ R K' σ' w' ∧ Step K σ w K' σ' w'

theorem load_sound (hT : TysOK P ty) {cs : List AV} {b o off t : Nat} {v : AV} {w : World} {f : Nat → Value}
    (hc : ∀ j (hj : j < cs.length), w.cell? ⟨b, o + j, none⟩ = some (f j) ∧ (f j).oneCell' = true ∧ VR K n (cs[j]) (f j))
    (hs : subAt off (ty t).sz cs (ty t).kd.agg = some v) : ∃ c, (loadVar t ⟨b, o + off, none⟩).run P w = .ok c w ∧ VR K n v c := by
  cases hb : (ty t).kd.agg with
  | none => rw [hb] at hs; simp [subAt] at hs
  | some ag =>
    have hk : (ty t).kd ≠ .other := by intro e; rw [e] at hb; simp [TK.agg] at hb
    rw [hb] at hs
    simp only [loadVar, Sem.run_bind, run_agg hT hb w, Result.andThen_ok]
    cases ag with
    | true =>
      simp only [subAt] at hs
      split at hs
      · rename_i hl
        simp at hs; subst hs
        have hrun := run_loadCells (P := P) w ⟨b, o + off, none⟩ (ty t).sz (fun j => f (off + j)) (fun j hj => by
          rw [addr_add, Nat.add_assoc]; exact (hc (off + j) (by omega)).1)
        refine ⟨.agg _, by simp only [Sem.run_bind, run_size hT hk w, Result.andThen_ok, if_true, hrun, Sem.run_pure]; rfl, ?_⟩
        refine VRs.agg ⟨by simp; omega, fun i h1 h2 => ?_⟩ (fun c hcm => ?_)
        · simp at h1 h2 ⊢
          exact (hc (off + i) (by omega)).2.2
        · simp at hcm
          obtain ⟨j, hj, rfl⟩ := hcm
          exact (hc (off + j) (by omega)).2.1
      · simp at hs
    | false =>
      simp only [subAt] at hs
      obtain ⟨hlt, rfl⟩ := List.getElem?_eq_some_iff.1 hs
      obtain ⟨h1, _, h3⟩ := hc off hlt
      exact ⟨f off, by simp [h1], h3⟩

theorem cells_of_obj {σ : List AObj} {w : World} (hR : R K σ w) {r : Nat} {cs : List AV} (h : hget σ r = some (.cells cs)) :
    ∃ f : Nat → Value, ∀ j (hj : j < cs.length), w.cell? ⟨K.φ r, 0 + j, none⟩ = some (f j) ∧ (f j).oneCell' = true ∧ VR K σ.length (cs[j]) (f j) := by
  obtain ⟨cc, E, h1, h2, h3, _⟩ := hR.obj r _ h
  refine ⟨fun j => cc.toList.getD j undef, fun j hj => ?_⟩
  have hj' : j < cc.toList.length := by rw [← h2.1]; exact hj
  have hd : cc.toList.getD j undef = cc.toList[j] := by simp [List.getD, List.getElem?_eq_getElem hj']
  refine ⟨?_, ?_, ?_⟩
  · have hj'' : j < cc.size := by simpa using hj'
    simp [World.cell?, h1, hj'']
  · show (cc.toList.getD j undef).oneCell' = true
    rw [hd]; exact h3 _ (List.getElem_mem hj')
  · show VR K σ.length (cs[j]) (cc.toList.getD j undef)
    rw [hd]; exact h2.2 j hj hj'

theorem cells_of_eptr {σ : List AObj} {w : World} (hR : R K σ w) {cs : List AV} {off : Nat} {c : Value} (h : VR K σ.length (.eptr cs off) c) :
    ∃ b o, c = .pointer (some ⟨b, o + off, none⟩) ∧ ∃ f : Nat → Value, ∀ j (hj : j < cs.length), w.cell? ⟨b, o + j, none⟩ = some (f j) ∧ (f j).oneCell' = true ∧ VR K σ.length (cs[j]) (f j) := by
  cases h with
  | eptr _ _ b o f hS h1 h => exact ⟨b, o, rfl, f, fun j hj => ⟨hR.stab b _ _ (hS j hj), h1 j hj, h j hj⟩⟩

def Kr.setφ (K : Kr) (r b : Nat) : Kr := { K with φ := fun q => if q = r then b else K.φ q }
theorem Ext.setφ (K : Kr) (r b : Nat) : Ext r K (K.setφ r b) :=
  ⟨fun q hq => by simp [Kr.setφ]; omega, fun _ _ _ _ h => h, fun _ _ _ h => h⟩

/-- A new variable. -/
theorem R.newCells {σ : List AObj} {w : World} (hR : R K σ w) {cs : List AV} {cc : Array Value} (E : TypeId) (h : VRs K σ.length cs cc.toList) (h1 : ∀ c ∈ cc.toList, c.oneCell' = true) :
    R (K.setφ σ.length w.heap.size) (σ ++ [.cells cs]) (w.alloc (.cells cc E (0, 0))) ∧ Step K σ w (K.setφ σ.length w.heap.size) (σ ++ [.cells cs]) (w.alloc (.cells cc E (0, 0))) := by
  refine hR.new (.cells cs) _ _ (Ext.setφ K _ _) (fun _ _ => rfl) (fun b p v hv => .inl hv) (fun b hb => by simpa [ObjBlk, Kr.setφ] using hb) ?_
  refine ⟨cc, E, by simp only [Kr.setφ, if_true]; exact heap_alloc_new w _, h.mono (Ext.setφ K _ _) (by omega), h1, fun p => ?_⟩
  cases hk : K.S w.heap.size p with
  | none => simp [Kr.setφ, hk]
  | some v => have := hR.lt hk; omega

theorem alloc_sound (hT : TysOK P ty) {σ : List AObj} {w : World} (hR : R K σ w) {t : Nat} (hk : (ty t).kd.agg.isSome = true) (old : Value) :
    ∃ c K' w', (Instr.alloc t true old).run P w = .ok c w' ∧ VR K' (σ.length + 1) (.ptr σ.length 0) c ∧ R K' (σ ++ [.cells (ty t).zero.cells]) w' ∧ Step K σ w K' (σ ++ [.cells (ty t).zero.cells]) w' := by
  have hk' := kd_of_agg hk
  obtain ⟨z, hz, hzr⟩ := run_zero (K := K) (n := σ.length) hT hk'
  obtain ⟨g1, g2⟩ := hz.cells (zero_flat hT hk')
  obtain ⟨r1, r2⟩ := hR.newCells t g1 g2
  refine ⟨.pointer (some ⟨w.heap.size, 0, none⟩), _, _, ?_, ?_, r1, r2⟩
  · simp only [Instr.alloc, Sem.run_bind, hzr w, Result.andThen_ok, newVar, newRow]; rfl
  · have := VR.ptr (K := K.setφ σ.length w.heap.size) (n := σ.length + 1) σ.length 0 (by omega)
    simpa [Kr.setφ] using this

theorem box_sound {σ : List AObj} {w : World} (hR : R K σ w) {t : Nat} {v : AV} {c : Value} (hv : VR K σ.length v c) (hf : v.flat = true) :
    ∃ c' K' w', (Instr.box t c).run P w = .ok c' w' ∧ VR K' (σ.length + 1) (.ptr σ.length 0) c' ∧ R K' (σ ++ [.cells v.cells]) w' ∧ Step K σ w K' (σ ++ [.cells v.cells]) w' := by
  obtain ⟨g1, g2⟩ := hv.cells hf
  obtain ⟨r1, r2⟩ := hR.newCells t g1 g2
  refine ⟨.pointer (some ⟨w.heap.size, 0, none⟩), _, _, ?_, ?_, r1, r2⟩
  · simp only [Instr.box, Sem.run_bind, newVar, newRow]; rfl
  · have := VR.ptr (K := K.setφ σ.length w.heap.size) (n := σ.length + 1) σ.length 0 (by omega)
    simpa [Kr.setφ] using this

theorem store_sound (hT : TysOK P ty) {σ : List AObj} {w : World} (hR : R K σ w) {t r off : Nat} {cs : List AV} (hk : (ty t).kd.agg.isSome = true) (hg : hget σ r = some (.cells cs)) {v : AV} {c : Value} (hv : VR K σ.length v c) (hf : v.flat = true)
    (hl : v.cells.length = (ty t).sz) (hlen : off + v.cells.length ≤ cs.length) :
    ∃ w', (Instr.storeAt t (.pointer (some ⟨K.φ r, off, none⟩)) c).run P w = .ok () w' ∧ R K (hset σ r (.cells (putAt off v.cells cs))) w' ∧ Step K σ w K (hset σ r (.cells (putAt off v.cells cs))) w' := by
  obtain ⟨cc, E, h1, h2, h3, h4⟩ := hR.obj r _ hg
  obtain ⟨g1, g2⟩ := hv.cells hf
  have hsz : c.cells.size = (ty t).sz := by have := g1.1; simp at this; omega
  have hcl : cs.length = cc.size := by have := h2.1; simpa using this
  have hst := run_storeCells_at P (K.φ r) off E c.cells.toList 0 cc w h1 (by simp; omega) (fun x hx => g2 x hx)
  simp only [Nat.add_zero] at hst
  refine ⟨w.setRow (K.φ r) (cc.toList.take off ++ c.cells.toList ++ cc.toList.drop (off + c.cells.toList.length)).toArray, ?_, ?_⟩
  · simp only [Instr.storeAt, Instr.sureAddr, storeVar, Sem.run_bind, Sem.run_pure, Result.andThen_ok, run_size hT (kd_of_agg hk), hsz, ne_eq, not_true_eq_false, if_false]
    exact hst
  · refine hR.turn hg (K.φ r) rfl K (.refl _ _) (fun _ _ => rfl) (fun b hb => setRow_other w _ _ _ hb) (setRow_size _ _ _) (fun _ _ _ => rfl) (fun p v' hv' => by rw [h4 p] at hv'; cases hv') (fun b hb => hb) ?_ rfl rfl rfl (by rw [setRow_heap w _ cc _ E (0, 0) h1, h1]; rfl)
    refine ⟨_, E, setRow_heap w _ cc _ E (0, 0) h1, ?_, ?_, h4⟩
    · simp only [putAt]
      have hl' : c.cells.toList.length = v.cells.length := g1.1.symm
      rw [hl']
      exact ((h2.take off).append g1).append (h2.drop _)
    · intro x hx
      simp only [List.mem_append] at hx
      rcases hx with (hx | hx) | hx
      · exact h3 x (List.mem_of_mem_take hx)
      · exact g2 x hx
      · exact h3 x (List.mem_of_mem_drop hx)

end Go.Mu
set_option linter.unusedSimpArgs false
set_option linter.unusedVariables false
namespace Go.Mu
open Go

variable {P : Program} {K : Kr} {n N : Nat} {ty : Nat → TI}

theorem flatMap_get (sz : Nat) : ∀ (xs : List AV) (i j : Nat), (∀ i (h : i < xs.length), (xs[i]).cells.length = sz) → j < sz → (xs.flatMap AV.cells)[i * sz + j]? = (xs[i]?).bind fun x => x.cells[j]?
  | [], i, j, _, _ => by simp
  | x :: xs, i, j, h, hj => by
    have h0 : x.cells.length = sz := h 0 (by simp)
    have hr : ∀ i (h : i < xs.length), (xs[i]).cells.length = sz := fun i hi => by have := h (i + 1) (by simpa using hi); simpa using this
    simp only [List.flatMap_cons]
    cases i with
    | zero => rw [List.getElem?_append_left (by omega)]; simp
    | succ i =>
      have e : (i + 1) * sz + j = sz + (i * sz + j) := by rw [Nat.add_mul]; omega
      rw [e, List.getElem?_append_right (by omega), h0, Nat.add_sub_cancel_left, flatMap_get sz xs i j hr hj]
      simp

theorem flatMap_len (sz : Nat) : ∀ (xs : List AV), (∀ i (h : i < xs.length), (xs[i]).cells.length = sz) → (xs.flatMap AV.cells).length = xs.length * sz
  | [], _ => by simp
  | x :: xs, h => by
    have h0 : x.cells.length = sz := h 0 (by simp)
    have hr : ∀ i (h : i < xs.length), (xs[i]).cells.length = sz := fun i hi => by have := h (i + 1) (by simpa using hi); simpa using this
    simp only [List.flatMap_cons, List.length_append, flatMap_len sz xs hr, h0, List.length_cons, Nat.add_mul]
    omega

/-- A list's value, taken apart: its cells in a row. -/
theorem VR.list_row {t : Tok} {sz : Nat} {xs : List AV} {c : Value} (h : VR K n (.list t sz xs) c) :
    ∃ (a : Option Addr) (cap : Nat) (cc : List Value), c = .slice a xs.length cap ∧ xs.length ≤ cap ∧ TokR K n t xs.length a cap ∧ (∀ i (h : i < xs.length), (xs[i]).cells.length = sz) ∧
      VRs K n (xs.flatMap AV.cells) cc ∧ (∀ x ∈ cc, x.oneCell' = true) ∧ (xs ≠ [] → ∃ b o, a = some ⟨b, o, none⟩ ∧ ∀ p (hp : p < cc.length), K.S b (o + p) = some cc[p]) := by
  cases h with
  | list _ _ _ a cap f hl ht ha hs h1 h =>
    have hlen := flatMap_len sz xs hs
    rcases Nat.eq_zero_or_pos sz with hz | hz
    · subst hz
      simp at hlen
      have hnil : xs.flatMap AV.cells = [] := by
        apply List.eq_nil_of_length_eq_zero
        rw [flatMap_len 0 xs hs]; simp
      refine ⟨a, cap, [], rfl, hl, ht, hs, by rw [hnil]; exact .nil, by simp, fun hx => ?_⟩
      obtain ⟨b, o, h2, _⟩ := ha hx
      exact ⟨b, o, h2, fun p hp => by simp at hp⟩
    · have hdm : ∀ p, p < xs.length * sz → p / sz < xs.length ∧ p % sz < sz ∧ p / sz * sz + p % sz = p := fun p hp =>
        ⟨(Nat.div_lt_iff_lt_mul hz).2 hp, Nat.mod_lt _ hz, by rw [Nat.mul_comm]; exact Nat.div_add_mod p sz⟩
      refine ⟨a, cap, (List.range (xs.length * sz)).map fun p => f (p / sz) (p % sz), rfl, hl, ht, hs, ⟨by simp [hlen], fun p g1 g2 => ?_⟩, fun x hx => ?_, fun hx => ?_⟩
      · simp at g2
        obtain ⟨e1, e2, e3⟩ := hdm p g2
        have hg := flatMap_get sz xs (p / sz) (p % sz) hs e2
        rw [e3, List.getElem?_eq_getElem g1, List.getElem?_eq_getElem e1] at hg
        have e4 : p % sz < (xs[p / sz]).cells.length := by rw [hs _ e1]; exact e2
        simp only [Option.bind_some, List.getElem?_eq_getElem e4, Option.some.injEq] at hg
        rw [hg]
        simp
        exact h _ _ e1 e4
      · simp at hx
        obtain ⟨p, hp, rfl⟩ := hx
        obtain ⟨e1, e2, _⟩ := hdm p hp
        exact h1 _ _ e1 e2
      · obtain ⟨b, o, h2, h3⟩ := ha hx
        refine ⟨b, o, h2, fun p hp => ?_⟩
        simp at hp ⊢
        obtain ⟨e1, e2, e3⟩ := hdm p hp
        have := h3 _ _ e1 e2
        rw [e3] at this
        exact this

theorem VR.of_row {t : Tok} {sz : Nat} {xs : List AV} {a : Option Addr} {cap : Nat} {cc : List Value} (hl : xs.length ≤ cap) (ht : TokR K n t xs.length a cap) (hs : ∀ i (h : i < xs.length), (xs[i]).cells.length = sz)
    (hv : VRs K n (xs.flatMap AV.cells) cc) (h1 : ∀ x ∈ cc, x.oneCell' = true) (ha : xs ≠ [] → ∃ b o, a = some ⟨b, o, none⟩ ∧ ∀ p (hp : p < cc.length), K.S b (o + p) = some cc[p]) : VR K n (.list t sz xs) (.slice a xs.length cap) := by
  have hlen := flatMap_len sz xs hs
  have hcl : cc.length = xs.length * sz := by rw [← hv.1, hlen]
  have hij : ∀ i j, i < xs.length → j < sz → i * sz + j < cc.length := fun i j hi hj => by
    have h2 : (i + 1) * sz ≤ xs.length * sz := Nat.mul_le_mul_right sz hi
    rw [Nat.add_mul] at h2; omega
  refine .list t sz xs a cap (fun i j => cc.getD (i * sz + j) undef) hl ht (fun hx => ?_) hs (fun i j hi hj => ?_) (fun i j hi hj => ?_)
  · obtain ⟨b, o, h2, h3⟩ := ha hx
    refine ⟨b, o, h2, fun i j hi hj => ?_⟩
    rw [h3 _ (hij i j hi hj)]
    simp [List.getD, List.getElem?_eq_getElem (hij i j hi hj)]
  · apply h1
    show cc.getD (i * sz + j) undef ∈ cc
    simp [List.getD, List.getElem?_eq_getElem (hij i j hi hj)]
  · have hj' : j < sz := by rw [← hs i hi]; exact hj
    have hlt := hij i j hi hj'
    have hg := flatMap_get sz xs i j hs hj'
    have hlt' : i * sz + j < (xs.flatMap AV.cells).length := by rw [hv.1]; exact hlt
    rw [List.getElem?_eq_getElem hlt', List.getElem?_eq_getElem hi] at hg
    simp only [Option.bind_some, List.getElem?_eq_getElem hj, Option.some.injEq] at hg
    have := hv.2 _ hlt' hlt
    rw [hg] at this
    show VR K n _ (cc.getD (i * sz + j) undef)
    simp only [List.getD, List.getElem?_eq_getElem hlt, Option.getD_some]
    exact this

/-- Its cells, read out of the world. -/
theorem run_firstCells {σ : List AObj} {w : World} (hR : R K σ w) {a : Option Addr} {len cap sz k : Nat} {cc : List Value} (hk : cc.length = k * sz)
    (ha : k ≠ 0 → ∃ b o, a = some ⟨b, o, none⟩ ∧ ∀ p (hp : p < cc.length), K.S b (o + p) = some cc[p]) : (Builtin.firstCells sz k (.slice a len cap)).run P w = .ok cc.toArray w := by
  by_cases h0 : k = 0
  · subst h0
    simp at hk; subst hk
    cases a with
    | none => rfl
    | some a => simp [Builtin.firstCells, loadCells, loadCellsFrom]
  · obtain ⟨b, o, rfl, h⟩ := ha h0
    simp only [Builtin.firstCells]
    rw [← hk]
    refine run_loadCells_list w ⟨b, o, none⟩ cc fun j v hv => ?_
    obtain ⟨hj, rfl⟩ := List.getElem?_eq_some_iff.1 hv
    rw [addr_add]
    exact hR.stab b _ _ (h j hj)

end Go.Mu
set_option linter.unusedSimpArgs false
set_option linter.unusedVariables false
namespace Go.Mu
open Go
variable {P : Program} {ty : Nat → TI} {K : Kr}
theorem headD_one {l : List AV} {d : AV} (h : l.length = 1) : l.headD d = l[0]'(by omega) := by
  match l, h with
  | [a], _ => rfl
/-- Elements of one cell copied into an array. -/
theorem copy_sound (hT : TysOK P ty) {σ : List AObj} {w : World} (hR : R K σ w) {ats : Array TypeId} {t0 e r off len sz : Nat} {t : Tok} {xs cs : List AV} (h0 : ats[0]? = some t0) (hk0 : (ty t0).kd = .slice e) (hk : (ty e).kd.agg.isSome = true) (h1 : (ty e).sz = 1) (hs : sz = 1 ∨ xs = []) (hlen : 0 < len)
    (hg : hget σ r = some (.cells cs)) (hl : off + len ≤ cs.length) {c1 c2 : Value} (g1 : VR K σ.length (.arr r off len) c1) (g2 : VR K σ.length (.list t sz xs) c2) (type : TypeId) :
    ∃ w', (Builtin.copy_ ats type #[c1, c2]).run P w = .ok (.int .i64 (min xs.length len : Nat)) w' ∧ R K (hset σ r (.cells (putAt off ((xs.take len).map oneA) cs))) w' ∧ Step K σ w K (hset σ r (.cells (putAt off ((xs.take len).map oneA) cs))) w' := by
  obtain ⟨cc, E, o1, o2, o3, o4⟩ := hR.obj r _ hg
  have hcl : cs.length = cc.size := by have := o2.1; simpa using this
  have hk' : (ty t0).kd ≠ .other := by rw [hk0]; simp
  obtain ⟨d, hd, hu⟩ := run_under hT hk'
  rw [hk0] at hd
  simp only [KdOK] at hd; subst hd
  cases g1 with
  | arr _ _ _ a cap hr hc ha =>
    have ha' : a = some ⟨K.φ r, off, none⟩ := by rcases ha with h | h; omega; exact h
    subst ha'
    cases g2 with
    | list _ _ _ a2 cap2 f q1 q2 q3 q4 q5 q6 =>
      have hx1 : ∀ i (hi : i < xs.length), (xs[i]).cells.length = 1 := fun i hi => by
        rw [q4 i hi]
        rcases hs with h | h
        · exact h
        · subst h; simp at hi
      have hoA : ∀ i (hi : i < xs.length), oneA xs[i] = (xs[i]).cells[0]'(by rw [hx1 i hi]; omega) := fun i hi => by
        exact headD_one (hx1 i hi)
      obtain ⟨n, hn⟩ : ∃ n, min xs.length len = n := ⟨_, rfl⟩
      obtain ⟨cc2, hcc⟩ : ∃ cc2, (List.range n).map (fun i => f i 0) = cc2 := ⟨_, rfl⟩
      have hc2 : cc2.length = n := by rw [← hcc]; simp
      have hV : VRs K σ.length ((xs.take len).map oneA) cc2 := ⟨by simp [hc2]; omega, fun i a b => by
        have hi : i < xs.length := by simp at a; omega
        subst hcc
        simp only [List.getElem_map, List.getElem_take, List.getElem_range]
        rw [hoA i hi]
        exact q6 i 0 hi (by rw [hx1 i hi]; omega)⟩
      have hcell : ∀ x ∈ cc2, x.oneCell' = true := fun x hx => by
        subst hcc
        obtain ⟨i, hi, rfl⟩ := List.mem_map.1 hx
        simp only [List.mem_range] at hi
        have hix : i < xs.length := by omega
        exact q5 i 0 hix (by rw [← q4 i hix, hx1 i hix]; omega)
      have hfirst := run_firstCells (P := P) hR (a := a2) (len := xs.length) (cap := cap2) (sz := 1) (k := n) (cc := cc2) (by omega) (fun hne => by
        obtain ⟨b, o, ha2, hS⟩ := q3 (fun e => by subst e; simp at hn; omega)
        refine ⟨b, o, ha2, fun p hp => ?_⟩
        have hpx : p < xs.length := by omega
        have hz : sz = 1 := by rw [← q4 p hpx, hx1 p hpx]
        subst hz
        have := hS p 0 hpx (by omega)
        subst hcc
        simpa using this)
      have hst := run_storeCells_at P (K.φ r) off E cc2 0 cc w o1 (by simp; omega) hcell
      simp only [Nat.add_zero] at hst
      refine ⟨w.setRow (K.φ r) (cc.toList.take off ++ cc2 ++ cc.toList.drop (off + cc2.length)).toArray, ?_, ?_⟩
      · simp only [Builtin.copy_, h0, List.getElem?_toArray, List.getElem?_cons_zero, List.getElem?_cons_succ, Sem.run_bind, hu w, Result.andThen_ok, Builtin.lenOf, Sem.run_pure, run_size hT (kd_of_agg hk), h1]
        have e : Nat.min xs.length len = n := hn
        rw [e, hfirst]
        simp only [Result.andThen_ok, hst, Sem.run_bind, Sem.run_pure]
        rw [hn]; rfl
      · refine hR.turn hg (K.φ r) rfl K (.refl _ _) (fun _ _ => rfl) (fun b hb => setRow_other w _ _ _ hb) (setRow_size _ _ _) (fun _ _ _ => rfl) (fun p v' hv' => by rw [o4 p] at hv'; cases hv') (fun b hb => hb) ?_ rfl rfl rfl (by rw [setRow_heap w _ cc _ E (0, 0) o1, o1]; rfl)
        refine ⟨_, E, setRow_heap w _ cc _ E (0, 0) o1, ?_, ?_, o4⟩
        · simp only [putAt]
          have hl' : cc2.length = ((xs.take len).map oneA).length := hV.1.symm
          rw [hl']
          exact ((o2.take off).append hV).append (o2.drop _)
        · intro x hx
          simp only [List.mem_append] at hx
          rcases hx with (hx | hx) | hx
          · exact o3 x (List.mem_of_mem_take hx)
          · exact hcell x hx
          · exact o3 x (List.mem_of_mem_drop hx)
end Go.Mu
set_option linter.unusedSimpArgs false
set_option linter.unusedVariables false
namespace Go.Mu
open Go

variable {P : Program} {K : Kr} {n N : Nat} {ty : Nat → TI}

theorem fill_lit (sz : Nat) : ∀ (ps : List (Nat × AV)) (ps' : List (Nat × Value)) (k : Nat) (cc : Array Value) (xs : List AV), litA sz k ps = some xs → ps.map (·.1) = ps'.map (·.1) → VRs K n (ps.map (·.2)) (ps'.map (·.2)) →
    cc.size = (k + ps.length) * sz → ∃ cc' rs, Instr.fill (fun i => some (i * sz, sz)) cc ps' = some cc' ∧ cc'.toList = cc.toList.take (k * sz) ++ rs ∧ VRs K n (xs.flatMap AV.cells) rs ∧ (∀ x ∈ rs, x.oneCell' = true) ∧
      (∀ i (h : i < xs.length), (xs[i]).cells.length = sz) ∧ xs.length = ps.length
  | [], ps', k, cc, xs, h, h1, h2, h3 => by
    simp [litA] at h; subst h
    cases ps' with
    | cons => simp at h1
    | nil => exact ⟨cc, [], rfl, by rw [List.take_of_length_le (by simp [h3])]; simp, .nil, by simp, by simp, rfl⟩
  | (i, v) :: ps, ps', k, cc, xs, h, h1, h2, h3 => by
    cases ps' with
    | nil => simp at h1
    | cons q qs =>
      obtain ⟨i', c⟩ := q
      simp only [List.map_cons, List.cons.injEq] at h1 h2
      obtain ⟨rfl, h1⟩ := h1
      simp only [litA] at h
      split at h
      · rename_i hc
        obtain ⟨rfl, hf, hl⟩ := hc
        simp only [Option.map_eq_some_iff] at h
        obtain ⟨ys, h4, rfl⟩ := h
        obtain ⟨g1, g2⟩ := h2.head.cells hf
        have g3 : c.cells.size = sz := by have := g1.1; simp at this; omega
        simp only [List.length_cons] at h3
        have hmul : (i + (ps.length + 1)) * sz = i * sz + sz + ps.length * sz := by rw [Nat.add_mul, Nat.add_mul]; omega
        have hput : (c.cells.zipIdx.foldl (fun (cs : Array Value) (p : Value × Nat) => cs.setIfInBounds (i * sz + p.2) p.1) cc).toList = cc.toList.take (i * sz) ++ c.cells.toList ++ cc.toList.drop (i * sz + sz) := by
          rw [← Array.foldl_toList, Array.toList_zipIdx]
          rw [foldl_put c.cells.toList 0 (i * sz) cc (by simp; omega)]
          simp [g3]
        generalize hA : (c.cells.zipIdx.foldl (fun (cs : Array Value) (p : Value × Nat) => cs.setIfInBounds (i * sz + p.2) p.1) cc) = A at hput
        have hAs : A.size = (i + 1 + ps.length) * sz := by
          have : A.toList.length = A.size := by simp
          rw [← this, hput]
          simp [g3]
          rw [show (i + 1 + ps.length) * sz = i * sz + sz + ps.length * sz by rw [Nat.add_mul, Nat.add_mul]; omega]
          omega
        obtain ⟨cc', rs, k1, k2, k3, k4, k5, k6⟩ := fill_lit sz ps qs (i + 1) A ys h4 h1 h2.tail hAs
        refine ⟨cc', c.cells.toList ++ rs, ?_, ?_, ?_, ?_, ?_, by simp [k6]⟩
        · simp only [Instr.fill]
          rw [if_neg (by simp [g3]; omega), hA]
          exact k1
        · rw [k2, hput]
          have e : (i + 1) * sz = i * sz + sz := by rw [Nat.add_mul]; omega
          rw [e]
          have hlt : (cc.toList.take (i * sz)).length = i * sz := by simp; omega
          rw [List.append_assoc, List.take_append, hlt, List.take_of_length_le (by omega), Nat.add_sub_cancel_left, List.take_append]
          simp [g3]
          exact List.take_of_length_le (by simp [g3])
        · simp only [List.flatMap_cons]; exact g1.append k3
        · intro x hx
          simp only [List.mem_append] at hx
          exact hx.elim (g2 x) (k4 x)
        · intro j hj
          cases j with
          | zero => exact hl
          | succ j => have := k5 j (by simpa using hj); simpa using this
      · simp at h

theorem canonE_cells {z : Nat} {x : AV} : x.cells.length = (canonE z x).cells.length := by
  unfold canonE; split
  · split <;> rfl
  · rfl
theorem VR.canonE {z : Nat} {x : AV} {c : Value} (h : VR K n x c) : VR K n (canonE z x) c := by
  unfold Mu.canonE; split
  · rename_i t sz xs
    split
    · rename_i hz
      cases h with
      | list _ _ _ a cap f hl ht ha hs h1 h =>
        rcases hz with rfl | rfl
        · exact .list .no sz xs a cap f hl trivial ha hs h1 h
        · exact .list .no z [] a cap f hl trivial (fun h => absurd rfl h) (fun i hi => by simp at hi) (fun i j hi => by simp at hi) (fun i j hi => by simp at hi)
    · exact h
  · exact h
theorem canonE_cell {z : Nat} {x : AV} {j : Nat} {c : Value} (hj : j < x.cells.length) (hj' : j < (canonE z x).cells.length) (h : VR K n (x.cells[j]) c) : VR K n ((canonE z x).cells[j]) c := by
  cases x with
  | list t sz xs =>
    have h0 : j = 0 := by simp [AV.cells] at hj; exact hj
    subst h0
    have h' : VR K n (.list t sz xs) c := h
    have h2 := h'.canonE (z := z)
    have e : (Mu.canonE z (.list t sz xs)).cells[0]'hj' = Mu.canonE z (.list t sz xs) := by
      simp only [Mu.canonE]; split <;> rfl
    rw [e]; exact h2
  | _ => exact h
theorem VR.canonL {o : Option Nat} {t : Tok} {sz : Nat} {xs : List AV} {a : Option Addr} {cap : Nat} (h : VR K n (.list t sz xs) (.slice a xs.length cap)) : VR K n (.list t sz (canonL o xs)) (.slice a xs.length cap) := by
  cases o with
  | none => exact h
  | some z =>
    cases h with
    | list _ _ _ _ _ f hl ht ha hs h1 h =>
      have e : xs.length = (xs.map (Mu.canonE z)).length := by simp
      show VR K n (.list t sz (xs.map (Mu.canonE z))) _
      rw [show (Value.slice a xs.length cap) = .slice a (xs.map (Mu.canonE z)).length cap by rw [← e]]
      refine .list t sz _ a cap f (by omega) (by rw [← e]; exact ht) (fun hne => ?_) (fun i hi => ?_) (fun i j hi hj => h1 i j (by omega) hj) (fun i j hi hj => ?_)
      · obtain ⟨b, o, h2, h3⟩ := ha (by intro e; subst e; simp at hne)
        exact ⟨b, o, h2, fun i j hi hj => h3 i j (by omega) hj⟩
      · simp only [List.getElem_map]; rw [← canonE_cells]; exact hs i (by omega)
      · have hi' : i < xs.length := by omega
        have e2 : (xs.map (Mu.canonE z))[i] = Mu.canonE z xs[i] := by simp
        have hj' : j < (xs[i]).cells.length := by rw [canonE_cells (z := z), ← e2]; exact hj
        have := canonE_cell (z := z) hj' (by rw [← canonE_cells]; exact hj') (h i j hi' hj')
        simpa only [e2] using this

def Kr.addS (K : Kr) (b : Nat) (cc : List Value) : Kr := { K with S := fun b' p => if b' = b then (if h : p < cc.length then some cc[p] else none) else K.S b' p }

theorem lit_sound (hT : TysOK P ty) {σ : List AObj} {w : World} (hR : R K σ w) {fr : Fr} {a : Act} (hF : FR K σ.length N fr a.tmps) {o : Oper} {v : AV} (h : litOp ty fr o.op = some v) :
    ∃ c K' w', (execOp a.eval o).run P w = .ok (.value c) w' ∧ VR K' σ.length v c ∧ R K' σ w' ∧ Step K σ w K' σ w' := by
  obtain ⟨dst, op, type, pos, after, guard⟩ := o
  simp only at h
  cases op with
  | buildSlice t len parts =>
    simp only [litOp] at h
    split at h
    · rename_i ps e h1 h2
      split at h
      · rename_i hc
        obtain ⟨ha, hlen, hmax, hpos, hz⟩ := hc
        simp only [Option.map_eq_some_iff] at h
        obtain ⟨xs, h3, rfl⟩ := h
        have hk : (ty t).kd ≠ .other := by rw [h2]; simp
        obtain ⟨d, hd, hu⟩ := run_under hT hk
        rw [h2] at hd
        simp only [KdOK] at hd; subst hd
        obtain ⟨z, hzv, hzr⟩ := run_zero (K := K) (n := σ.length) hT (kd_of_agg ha)
        obtain ⟨b1, b2⟩ := apart_sound hF h1
        have c1 : ps.map (·.1) = ((parts.map fun (i, x) => (i, a.eval x)).toList).map (·.1) := by rw [b1]; simp [Function.comp_def]
        have c2 : VRs K σ.length (ps.map (·.2)) (((parts.map fun (i, x) => (i, a.eval x)).toList).map (·.2)) := by simpa [Function.comp_def] using b2
        have hrun : ∀ A : Array Value, A.size = len * (ty e).sz → ∃ cc rs, Instr.fill (fun i => some (i * (ty e).sz, (ty e).sz)) A (parts.map fun (i, x) => (i, a.eval x)).toList = some cc ∧ cc.toList = rs ∧
            VRs K σ.length (xs.flatMap AV.cells) rs ∧ (∀ x ∈ rs, x.oneCell' = true) ∧ (∀ i (h : i < xs.length), (xs[i]).cells.length = (ty e).sz) ∧ xs.length = ps.length := fun A hA => by
          obtain ⟨cc, rs, k1, k2, k3⟩ := fill_lit (ty e).sz ps _ 0 A xs h3 c1 c2 (by rw [hA, hlen]; simp)
          exact ⟨cc, rs, k1, by simpa using k2, k3⟩
        obtain ⟨A, hA, hAr⟩ : ∃ A : Array Value, A.size = len * (ty e).sz ∧
            ((len * (ty e).sz = 0 ∧ A = (Array.range (len * (ty e).sz)).map ((#[] : Array Value)[· % (#[] : Array Value).size]!)) ∨ (¬ len * (ty e).sz = 0 ∧ A = (Array.range (len * (ty e).sz)).map (z.cells[· % z.cells.size]!))) := by
          by_cases h0 : len * (ty e).sz = 0
          · exact ⟨_, by simp, .inl ⟨h0, rfl⟩⟩
          · exact ⟨_, by simp, .inr ⟨h0, rfl⟩⟩
        obtain ⟨cc, rs, k1, rfl, k3, k4, k5, k6⟩ := hrun A hA
        have hcc : cc.toList.length = xs.length * (ty e).sz := by rw [← k3.1, flatMap_len _ xs k5]
        have hxl : xs.length = len := by omega
        have hext : Ext σ.length K (K.addS w.heap.size cc.toList) := ⟨fun _ _ => rfl, fun _ _ _ _ h => h, fun b p v hv => by
          have := hR.lt hv
          simp only [Kr.addS]; rw [if_neg (by omega)]; exact hv⟩
        obtain ⟨r1, r2⟩ := hR.newS (.cells cc e (0, 0)) (K.addS w.heap.size cc.toList) hext rfl (fun b p v hv => by
          simp only [Kr.addS] at hv
          split at hv
          · rename_i hb
            split at hv
            · rename_i hp
              refine .inr ⟨hb, ?_⟩
              subst hb
              simp only [World.cell?, heap_alloc_new]
              have hp' : p < cc.size := by simpa using hp
              simp only [Option.isSome_none, Bool.false_eq_true, if_false]
              rw [← hv]; simp [hp']
            · cases hv
          · exact .inl hv)
        refine ⟨.slice (some ⟨w.heap.size, 0, none⟩) len len, _, _, ?_, ?_, r1, r2⟩
        · have hno : ¬ len * (ty e).sz > 2 ^ 24 := by omega
          rcases hAr with ⟨h0, rfl⟩ | ⟨h0, rfl⟩
          · simp only [execOp, Instr.buildSlice, Sem.run_bind, hu w, run_size hT (kd_of_agg ha), Result.andThen_ok, if_neg hno, if_pos h0, Sem.run_pure, k1, newRow]
            rfl
          · simp only [execOp, Instr.buildSlice, Sem.run_bind, hu w, run_size hT (kd_of_agg ha), Result.andThen_ok, if_neg hno, if_neg h0, hzr w, Sem.run_pure, k1, newRow]
            rfl
        · rw [← hxl]
          refine VR.canonL ?_
          refine VR.of_row (Nat.le_refl _) rfl k5 (k3.mono hext (Nat.le_refl _)) k4 (fun _ => ⟨w.heap.size, 0, rfl, fun p hp => ?_⟩)
          simp only [Kr.addS, Nat.zero_add, if_true]
          rw [dif_pos hp]
      · simp at h
    · simp at h
  | _ => simp [litOp] at h

end Go.Mu
set_option linter.unusedSimpArgs false
set_option linter.unusedVariables false
namespace Go.Mu
open Go

variable {P : Program} {K : Kr} {n N : Nat} {ty : Nat → TI}

theorem growBy_le (newLen : Nat) : ∀ (rounds c : Nat), Builtin.growBy newLen rounds c ≤ max c (2 * newLen + 200)
  | 0, c => by simp only [Builtin.growBy]; omega
  | r + 1, c => by
    simp only [Builtin.growBy]
    split
    · omega
    · have := growBy_le newLen r (c + (c + 768) / 4); omega
theorem nextcap_le (need cap : Nat) (h : cap < need) : Builtin.nextslicecap need cap ≤ 2 * need + 200 := by
  unfold Builtin.nextslicecap
  split
  · omega
  · split
    · omega
    · have := growBy_le need 4 cap; omega

def Kr.setT (K : Kr) (r : Nat) (f : Nat → Option (Option Addr × Nat)) : Kr := { K with tl := fun q => if q = r then f else K.tl q }

theorem zeroCells_size (z : Array Value) (k : Nat) : (Builtin.zeroCells z k).size = k * z.size := by simp [Builtin.zeroCells]

/-- The new version of a list that was moved into a new block. -/
theorem app_moved {σ σ' : List AObj} {w : World} (hR : R K σ w) (r : Nat) (sz m cap : Nat) (E : TypeId) (xs ys : List AV) (cc cc2 : List Value) (rest : List Value) (f : Nat → Option (Option Addr × Nat))
    (hs1 : ∀ i (h : i < xs.length), (xs[i]).cells.length = sz) (hs2 : ∀ i (h : i < ys.length), (ys[i]).cells.length = sz)
    (hv1 : VRs K σ.length (xs.flatMap AV.cells) cc) (hv2 : VRs K σ.length (ys.flatMap AV.cells) cc2) (h1 : ∀ x ∈ cc, x.oneCell' = true) (h2 : ∀ x ∈ cc2, x.oneCell' = true)
    (hm : m = xs.length + ys.length) (hcap : m ≤ cap) (hrest : rest.length = (cap - m) * sz)
    (hlen : σ.length ≤ σ'.length) (hr : r < σ'.length) (hro : σ'[r]? = some (.tail m sz)) (hrs : ∀ q o', q ≠ r → σ'[q]? = some o' → σ[q]? = some o')
    (hf : f m = some (some ⟨w.heap.size, 0, none⟩, cap)) (hf' : ∀ k, m < k → f k = none) (hold : r < σ.length → ∀ k x, K.tl r k = some x → f k = some x) :
    ∃ K', VR K' σ'.length (.list (.own r) sz (xs ++ ys)) (.slice (some ⟨w.heap.size, 0, none⟩) m cap) ∧ R K' σ' (w.alloc (.cells (cc ++ cc2 ++ rest).toArray E (0, 0))) ∧ Step K σ w K' σ' (w.alloc (.cells (cc ++ cc2 ++ rest).toArray E (0, 0))) := by
  have hl1 : cc.length = xs.length * sz := by rw [← hv1.1, flatMap_len _ xs hs1]
  have hl2 : cc2.length = ys.length * sz := by rw [← hv2.1, flatMap_len _ ys hs2]
  have hmz : m * sz = cc.length + cc2.length := by rw [hm, Nat.add_mul]; omega
  have htot : (cc ++ cc2 ++ rest).length = cap * sz := by
    simp only [List.length_append, hrest]
    have : cap * sz = m * sz + (cap - m) * sz := by rw [← Nat.add_mul]; congr 1; omega
    omega
  have hext : Ext σ.length K ((K.addS w.heap.size (cc ++ cc2)).setT r f) := ⟨fun _ _ => rfl, fun q hq k x hx => by
    simp only [Kr.setT, Kr.addS]
    by_cases e : q = r
    · subst e; rw [if_pos rfl]; exact hold hq k x hx
    · rw [if_neg e]; exact hx, fun b p v hv => by
    have := hR.lt hv
    simp only [Kr.addS, Kr.setT]; rw [if_neg (by omega)]; exact hv⟩
  obtain ⟨r1, r2⟩ := hR.newAt (σ' := σ') r (.tail m sz) (.cells (cc ++ cc2 ++ rest).toArray E (0, 0)) ((K.addS w.heap.size (cc ++ cc2)).setT r f) hext hlen hr hro hrs
    (fun q hq => by simp only [Kr.setT, Kr.addS]; rw [if_neg hq])
    (fun b p v hv => by
      simp only [Kr.addS, Kr.setT] at hv
      split at hv
      · rename_i hb
        split at hv
        · rename_i hp
          refine .inr ⟨hb, ?_⟩
          subst hb
          simp only [World.cell?, heap_alloc_new, Option.isSome_none, Bool.false_eq_true, if_false]
          rw [← hv]
          have hp' : p < (cc ++ cc2 ++ rest).length := by rw [List.length_append]; omega
          simp only [List.getElem?_toArray]
          rw [List.getElem?_append_left hp, List.getElem?_eq_getElem hp]
        · cases hv
      · exact .inl hv)
    (fun b hb => by
      obtain ⟨a, cap', g1, g2, rfl⟩ := hb
      simp only [Kr.setT, if_true] at g1
      rw [hf] at g1; simp at g1
      rw [← g1.1])
    (by
      refine ⟨some ⟨w.heap.size, 0, none⟩, cap, by simp only [Kr.setT, if_true]; exact hf, hcap, fun k hk => by simp only [Kr.setT, if_true]; exact hf' k hk, fun _ => ⟨w.heap.size, 0, _, E, rfl, heap_alloc_new w _, ?_, fun p hp => ?_⟩⟩
      · simp only [Nat.zero_add, List.size_toArray, htot]; exact Nat.le_refl _
      · simp only [Kr.setT, Kr.addS, if_true]
        rw [dif_neg]
        rw [List.length_append]; omega)
  refine ⟨_, ?_, r1, r2⟩
  have hlen2 : m = (xs ++ ys).length := by rw [List.length_append]; exact hm
  rw [hlen2]
  refine VR.of_row (by omega) ⟨hr, ?_⟩ ?_ (cc := cc ++ cc2) ?_ ?_ (fun _ => ⟨w.heap.size, 0, rfl, fun p hp => ?_⟩)
  · simp only [Kr.setT, if_true]; rw [← hlen2]; exact hf
  · intro i hi
    by_cases e : i < xs.length
    · rw [List.getElem_append_left e]; exact hs1 i e
    · rw [List.getElem_append_right (by omega)]; exact hs2 _ _
  · rw [List.flatMap_append]
    exact (hv1.append hv2).mono hext hlen
  · intro x hx
    simp only [List.mem_append] at hx
    exact hx.elim (h1 x) (h2 x)
  · simp only [Kr.setT, Kr.addS, if_true, Nat.zero_add]
    rw [dif_pos hp]

end Go.Mu
set_option linter.unusedSimpArgs false
set_option linter.unusedVariables false
namespace Go.Mu
open Go

variable {P : Program} {K : Kr} {n N : Nat} {ty : Nat → TI}

theorem hget_lt {σ : List AObj} {r : Nat} {o : AObj} (h : hget σ r = some o) : r < σ.length := (List.getElem?_eq_some_iff.1 h).1
theorem hset_get_same {σ : List AObj} {r : Nat} {o : AObj} (h : r < σ.length) : (hset σ r o)[r]? = some o := by simp [hset, h]
theorem hset_get_other {σ : List AObj} {r q : Nat} {o o' : AObj} (hq : q ≠ r) (h : (hset σ r o)[q]? = some o') : σ[q]? = some o' := by
  simpa [hset, List.getElem?_set, Ne.symm hq] using h

/-- The new version of a list that has room. -/
theorem app_inplace {σ : List AObj} {w : World} (hR : R K σ w) (r : Nat) (sz m cap b o : Nat) (E : TypeId) (xs ys : List AV) (cc cc2 : List Value) (cells : Array Value)
    (hs1 : ∀ i (h : i < xs.length), (xs[i]).cells.length = sz) (hs2 : ∀ i (h : i < ys.length), (ys[i]).cells.length = sz)
    (hv1 : VRs K σ.length (xs.flatMap AV.cells) cc) (hv2 : VRs K σ.length (ys.flatMap AV.cells) cc2) (h1 : ∀ x ∈ cc, x.oneCell' = true) (h2 : ∀ x ∈ cc2, x.oneCell' = true)
    (hS1 : xs ≠ [] → ∀ p (hp : p < cc.length), K.S b (o + p) = some cc[p])
    (hm : m = xs.length + ys.length) (hcap : m ≤ cap) (hy : ys ≠ []) (hg : hget σ r = some (.tail xs.length sz)) (htl : K.tl r xs.length = some (some ⟨b, o, none⟩, cap)) (hnew : ∀ k, xs.length < k → K.tl r k = none)
    (hh : w.heap[b]? = some (.cells cells E (0, 0))) (hroom : o + cap * sz ≤ cells.size) (hfree : ∀ p, o + xs.length * sz ≤ p → K.S b p = none) :
    ∃ K' w', (storeCells ((⟨b, o, none⟩ : Addr).add (xs.length * sz)) cc2).run P w = .ok () w' ∧ VR K' (hset σ r (.tail m sz)).length (.list (.own r) sz (xs ++ ys)) (.slice (some ⟨b, o, none⟩) m cap) ∧
      R K' (hset σ r (.tail m sz)) w' ∧ Step K σ w K' (hset σ r (.tail m sz)) w' := by
  have hl1 : cc.length = xs.length * sz := by rw [← hv1.1, flatMap_len _ xs hs1]
  have hl2 : cc2.length = ys.length * sz := by rw [← hv2.1, flatMap_len _ ys hs2]
  have hmz : m * sz = cc.length + cc2.length := by rw [hm, Nat.add_mul]; omega
  have hle : m * sz ≤ cap * sz := Nat.mul_le_mul_right sz hcap
  have hr := hget_lt hg
  have hyl : 0 < ys.length := List.length_pos_iff.2 hy
  have hst := run_storeCells_at P b (o + xs.length * sz) E cc2 0 cells w hh (by omega) h2
  simp only [Nat.add_zero] at hst
  let K' : Kr := { K with S := fun b' p => if b' = b ∧ o + xs.length * sz ≤ p ∧ p < o + m * sz then cc2[p - (o + xs.length * sz)]? else K.S b' p,
                          tl := fun q k => if q = r ∧ k = m then some (some ⟨b, o, none⟩, cap) else K.tl q k }
  have hext : Ext σ.length K K' := ⟨fun _ _ => rfl, fun q hq k x hx => by
    show (if q = r ∧ k = m then _ else _) = _
    by_cases e : q = r ∧ k = m
    · obtain ⟨e1, e2⟩ := e
      rw [e1, e2, hnew m (by omega)] at hx; cases hx
    · rw [if_neg e]; exact hx, fun b' p v hv => by
    show (if b' = b ∧ o + xs.length * sz ≤ p ∧ p < o + m * sz then _ else _) = _
    rw [if_neg]
    · exact hv
    · rintro ⟨rfl, h3, _⟩
      rw [hfree p h3] at hv; cases hv⟩
  have hblk : ObjBlk K r (.tail xs.length sz) b := ⟨⟨b, o, none⟩, cap, htl, by omega, rfl⟩
  obtain ⟨r1, r2⟩ := hR.turn (w' := w.setRow b (cells.toList.take (o + xs.length * sz) ++ cc2 ++ cells.toList.drop (o + xs.length * sz + cc2.length)).toArray) hg b hblk K' hext
    (o' := .tail m sz)
    (fun q hq => by funext k; show (if q = r ∧ k = m then _ else _) = _; rw [if_neg (fun h => hq h.1)])
    (fun b' hb => setRow_other w _ _ _ hb) (setRow_size _ _ _)
    (fun b' p hb => by show (if b' = b ∧ _ then _ else _) = _; rw [if_neg (fun h => hb h.1)])
    (fun p v hv => by
      rw [cell_setRow_same w b p cells _ E (0, 0) hh]
      have hv' : (if b = b ∧ o + xs.length * sz ≤ p ∧ p < o + m * sz then cc2[p - (o + xs.length * sz)]? else K.S b p) = some v := hv
      simp only [List.getElem?_toArray]
      have hco : o + xs.length * sz ≤ cells.toList.length := by simp; omega
      have hto : (cells.toList.take (o + xs.length * sz)).length = o + xs.length * sz := by simp; omega
      split at hv'
      · rename_i hc
        rw [List.append_assoc, List.getElem?_append_right (by omega), hto, List.getElem?_append_left (by omega)]
        exact hv'
      · have hlt : p < o + xs.length * sz := by
          rcases Nat.lt_or_ge p (o + xs.length * sz) with h | h
          · exact h
          · rw [hfree p h] at hv'; cases hv'
        have := hR.stab b p v hv'
        simp only [World.cell?, hh, Option.isSome_none, Bool.false_eq_true, if_false] at this
        rw [List.append_assoc, List.getElem?_append_left (by omega), List.getElem?_take_of_lt hlt]
        simpa using this)
    (fun b' hb => by
      obtain ⟨a', cap', g1, g2, rfl⟩ := hb
      have g1' : (if r = r ∧ m = m then some (some (⟨b, o, none⟩ : Addr), cap) else K.tl r m) = some (some a', cap') := g1
      rw [if_pos ⟨rfl, rfl⟩] at g1'; simp at g1'
      rw [← g1'.1])
    (by
      refine ⟨some ⟨b, o, none⟩, cap, if_pos ⟨rfl, rfl⟩, hcap, fun k hk => ?_, fun _ => ⟨b, o, _, E, rfl, setRow_heap w b cells _ E (0, 0) hh, ?_, fun p hp => ?_⟩⟩
      · show (if r = r ∧ k = m then _ else _) = _
        rw [if_neg (by omega)]; exact hnew k (by omega)
      · simp only [List.size_toArray, List.length_append, List.length_take, List.length_drop, Array.length_toList]; omega
      · show (if b = b ∧ _ then _ else _) = _
        rw [if_neg (by omega)]
        exact hfree p (by omega))
    rfl rfl rfl (by rw [setRow_heap w b cells _ E (0, 0) hh, hh]; rfl)
  refine ⟨K', _, by rw [addr_add]; exact hst, ?_, r1, r2⟩
  have hlen2 : m = (xs ++ ys).length := by rw [List.length_append]; exact hm
  have hsl : (hset σ r (.tail m sz)).length = σ.length := by simp [hset]
  rw [hsl]
  rw [show (Value.slice (some ⟨b, o, none⟩) m cap) = .slice (some ⟨b, o, none⟩) (xs ++ ys).length cap by rw [← hlen2]]
  refine VR.of_row (by omega) ⟨hr, by rw [← hlen2]; exact if_pos ⟨rfl, rfl⟩⟩ ?_ (cc := cc ++ cc2) ?_ ?_ (fun _ => ⟨b, o, rfl, fun p hp => ?_⟩)
  · intro i hi
    by_cases e : i < xs.length
    · rw [List.getElem_append_left e]; exact hs1 i e
    · rw [List.getElem_append_right (by omega)]; exact hs2 _ _
  · rw [List.flatMap_append]
    exact (hv1.append hv2).mono hext (Nat.le_refl _)
  · intro x hx
    simp only [List.mem_append] at hx
    exact hx.elim (h1 x) (h2 x)
  · show (if b = b ∧ o + xs.length * sz ≤ o + p ∧ o + p < o + m * sz then _ else _) = _
    by_cases e : p < cc.length
    · rw [if_neg (by omega), List.getElem_append_left e]
      exact hS1 (by intro h; rw [h] at hl1; simp only [List.length_nil, Nat.zero_mul] at hl1; omega) p e
    · simp only [List.length_append] at hp
      rw [if_pos ⟨rfl, by omega, by omega⟩, List.getElem_append_right (by omega)]
      rw [List.getElem?_eq_getElem (by omega)]
      congr 2; omega

theorem VRs.two {v1 v2 : AV} {cs : List Value} (h : VRs K n [v1, v2] cs) : ∃ c1 c2, cs = [c1, c2] ∧ VR K n v1 c1 ∧ VR K n v2 c2 := by
  match cs, h with
  | [], h => have := h.1; simp at this
  | [_], h => have := h.1; simp at this
  | [c1, c2], h => exact ⟨c1, c2, rfl, h.head, h.tail.head⟩
  | _ :: _ :: _ :: _, h => have := h.1; simp at this

theorem list_len_pos {xs : List AV} (h : xs.length ≠ 0) : xs ≠ [] := by intro e; subst e; simp at h

set_option maxHeartbeats 1000000 in
theorem app_sound (hT : TysOK P ty) {σ σ' : List AObj} {w : World} (hR : R K σ w) {t0 t1 e e' : Nat} {ats : Array TypeId} (ht0 : ats[0]? = some t0) (ht1 : ats[1]? = some t1) (hk0 : (ty t0).kd = .slice e) (hk1 : (ty t1).kd = .slice e')
    {t t' : Tok} {sz sz' : Nat} {xs ys : List AV} {c1 c2 : Value} {v : AV} (hv1 : VR K σ.length (.list t sz xs) c1) (hv2 : VR K σ.length (.list t' sz' ys) c2) (h : appA (ty e) σ t sz xs sz' ys = some (v, σ')) (type : TypeId) :
    ∃ c K' w', (Builtin.append_ ats type #[c1, c2]).run P w = .ok c w' ∧ VR K' σ'.length v c ∧ R K' σ' w' ∧ Step K σ w K' σ' w' := by
  unfold appA at h
  split at h
  case isFalse => cases h
  rename_i hc
  obtain ⟨hag, hpos, hby, hzl, hsz, hsz', hbound⟩ := hc
  obtain ⟨a, cap, cc, rfl, hcap, htok, hs1, hvr1, h1, ha⟩ := hv1.list_row
  obtain ⟨a2, cap2, cc2, rfl, hcap2, _, hs2, hvr2, h2, ha2⟩ := hv2.list_row
  have hs1' : ∀ i (h : i < xs.length), (xs[i]).cells.length = (ty e).sz := fun i hi => by
    rcases hsz with e | e
    · rw [← e]; exact hs1 i hi
    · subst e; simp at hi
  have hs2' : ∀ i (h : i < ys.length), (ys[i]).cells.length = (ty e).sz := fun i hi => by
    rcases hsz' with e | e
    · rw [← e]; exact hs2 i hi
    · subst e; simp at hi
  have hl1 : cc.length = xs.length * (ty e).sz := by rw [← hvr1.1, flatMap_len _ xs hs1']
  have hl2 : cc2.length = ys.length * (ty e).sz := by rw [← hvr2.1, flatMap_len _ ys hs2']
  have hk0' : (ty t0).kd ≠ .other := by rw [hk0]; simp
  have hk1' : (ty t1).kd ≠ .other := by rw [hk1]; simp
  obtain ⟨d0, hd0, hu0⟩ := run_under hT hk0'
  obtain ⟨d1, hd1, hu1⟩ := run_under hT hk1'
  rw [hk0] at hd0; rw [hk1] at hd1
  simp only [KdOK] at hd0 hd1; subst hd0; subst hd1
  obtain ⟨z, hz, hzr⟩ := run_zero (K := K) (n := σ.length) hT (kd_of_agg hag)
  obtain ⟨ti, hi1, hi2, _, hir⟩ := run_info hT (kd_of_agg hag)
  have hzs : z.cells.size = (ty e).sz := by
    have := (hz.cells (zero_flat hT (kd_of_agg hag))).1.1; simp at this; omega
  have hfc1 := run_firstCells (P := P) (w := w) hR (a := a) (len := xs.length) (cap := cap) hl1 (fun hx => ha (list_len_pos hx))
  have hfc2 := run_firstCells (P := P) (w := w) hR (a := a2) (len := ys.length) (cap := cap2) hl2 (fun hx => ha2 (list_len_pos hx))
  -- the run, where there is room
  have hroom : ∀ w', xs.length + ys.length ≤ cap → (∀ b, a = some b → (storeCells (b.add (xs.length * (ty e).sz)) cc2).run P w = .ok () w') → (a = none → w' = w) →
      (Builtin.append_ ats type #[.slice a xs.length cap, .slice a2 ys.length cap2]).run P w = .ok (.slice a (xs.length + ys.length) cap) w' := by
    intro w' hle hst hno
    cases a with
    | none => simp [Builtin.append_, ht0, ht1, hu0 w, hu1 w, run_size hT (kd_of_agg hag), Builtin.lenOf, hle, hfc2, hno rfl]
    | some b => simp [Builtin.append_, ht0, ht1, hu0 w, hu1 w, run_size hT (kd_of_agg hag), Builtin.lenOf, hle, hfc2, hst b rfl]
  have hgrow : cap < xs.length + ys.length → ∃ nc rest d, xs.length + ys.length ≤ nc ∧ rest.length = (nc - (xs.length + ys.length)) * (ty e).sz ∧
      (Builtin.append_ ats type #[.slice a xs.length cap, .slice a2 ys.length cap2]).run P w = .ok (.slice (some ⟨w.heap.size, 0, none⟩) (xs.length + ys.length) nc) (({ w with drawn := d } : World).alloc (.cells (cc ++ cc2 ++ rest).toArray e (0, 0))) := by
    intro hlt
    have hq : Builtin.nextslicecap (xs.length + ys.length) cap * (ty e).bytes ≤ 2 ^ 48 := by
      have h3 := nextcap_le _ _ hlt
      have h4 : Builtin.nextslicecap (xs.length + ys.length) cap ≤ 8589934792 := by omega
      calc _ ≤ 8589934792 * 4096 := Nat.mul_le_mul h4 hby
        _ ≤ 2 ^ 48 := by decide
    have hneed : ¬ ((xs.length : Int) + ys.length > 9223372036854775807) := by omega
    generalize hnc : (xs.length + ys.length) + w.tape w.drawn (.appendCap (xs.length + ys.length) cap e) % (2 ^ 63 - (xs.length + ys.length)) = nc
    have hncl : xs.length + ys.length ≤ nc := by omega
    let wd : World := { w with drawn := w.drawn + 1 }
    have hfd1 := run_firstCells (P := P) (w := wd) (hR.drew _) (a := a) (len := xs.length) (cap := cap) hl1 (fun hx => ha (list_len_pos hx))
    have hfd2 := run_firstCells (P := P) (w := wd) (hR.drew _) (a := a2) (len := ys.length) (cap := cap2) hl2 (fun hx => ha2 (list_len_pos hx))
    have hch : (choose (.appendCap (xs.length + ys.length) cap e)).run P w = .ok nc wd := by
      rw [run_choose]; simp only [Question.forced, Question.cut, Bool.false_eq_true, if_false, hnc]; rfl
    refine ⟨nc, (Builtin.zeroCells z.cells (nc - (xs.length + ys.length))).toList, w.drawn + 1, hncl, by rw [Array.length_toList, zeroCells_size, hzs], ?_⟩
    have hle : ¬ xs.length + ys.length ≤ cap := by omega
    have hb : ¬ (Builtin.nextslicecap (xs.length + ys.length) cap * ti.bytes > 2 ^ 48) := by rw [hi2]; omega
    have hb' : ¬ (281474976710656 < Builtin.nextslicecap (xs.length + ys.length) cap * ti.bytes) := by simpa using hb
    have hn9 : ¬ (IntKind.i64.max < (xs.length : Int) + ys.length) := by simp [IntKind.max, IntKind.signed, IntKind.bits]; omega
    simp [Builtin.append_, ht0, ht1, hu0 w, hu1 w, run_size hT (kd_of_agg hag), Builtin.lenOf, hle, hir, hb', hn9, hch, hfd1, hfd2, hzr, newRow]
    rw [if_neg (by omega), if_neg (by simp [Question.forced])]
    have hdrew : w.drew = wd := rfl
    rw [hdrew, hfd1, Result.andThen_ok, hfd2, Result.andThen_ok]
    have hcut : (Question.appendCap (xs.length + ys.length) cap e).cut (w.tape w.drawn (Question.appendCap (xs.length + ys.length) cap e)) = nc := hnc
    rw [hcut]
    have harr : cc.toArray ++ (cc2.toArray ++ Builtin.zeroCells z.cells (nc - (xs.length + ys.length))) = (cc ++ cc2 ++ (Builtin.zeroCells z.cells (nc - (xs.length + ys.length))).toList).toArray := by
      apply Array.ext'; simp
    rw [harr, List.append_assoc]
  have hxy : xs.length + ys.length = (xs ++ ys).length := by simp
  cases t with
  | no => simp at h
  | full =>
    simp only [Option.some.injEq, Prod.mk.injEq] at h
    obtain ⟨rfl, rfl⟩ := h
    have hcl : cap = xs.length := htok
    by_cases hle : xs.length + ys.length ≤ cap
    · -- nothing is appended, and there is no room: the list bears a number now
      have hy0 : ys.length = 0 := by omega
      have hyn : ys = [] := List.eq_nil_of_length_eq_zero hy0
      have hc0 : cc2 = [] := List.eq_nil_of_length_eq_zero (by rw [hl2, hy0]; simp)
      have hrun := hroom w hle (fun b _ => by subst hc0; rfl) (fun _ => rfl)
      have hext : Ext σ.length K (K.setT σ.length fun k => if k = xs.length + ys.length then some (a, cap) else none) := ⟨fun _ _ => rfl, fun q hq k x hx => by
        simp only [Kr.setT]; rw [if_neg (by omega)]; exact hx, fun _ _ _ h => h⟩
      obtain ⟨r1, r2⟩ := hR.ghostAt (σ' := σ ++ [.tail (xs.length + ys.length) (ty e).sz]) σ.length (.tail (xs.length + ys.length) (ty e).sz) _ hext (by simp) (by simp)
        (fun q o' hq hg => by
          rw [List.getElem?_append] at hg
          split at hg
          · exact hg
          · cases hk : q - σ.length with
            | zero => omega
            | succ j => rw [hk] at hg; simp at hg)
        (fun q hq => by simp only [Kr.setT]; rw [if_neg hq]) rfl
        (fun b hb => by
          obtain ⟨a', cap', g1, g2, _⟩ := hb
          simp only [Kr.setT, if_true] at g1
          simp at g1
          omega)
        ⟨a, cap, by simp only [Kr.setT, if_true], by omega, fun k hk => by simp only [Kr.setT, if_true]; rw [if_neg (by omega)], fun hc => absurd hc (by omega)⟩
      refine ⟨_, _, _, hrun, ?_, r1, r2⟩
      rw [hxy]
      refine VR.of_row (cc := cc) (by rw [← hxy]; exact hle) ⟨by simp, ?_⟩ ?_ ?_ h1 (fun hne => ?_)
      · simp only [Kr.setT, if_true, ← hxy]
      · subst hyn; simpa using hs1'
      · subst hyn; simp only [List.append_nil]; exact hvr1.mono hext (by simp)
      · subst hyn; simp only [List.append_nil] at hne
        exact ha hne
    · obtain ⟨nc, rest, d, g1, g2, g3⟩ := hgrow (by omega)
      obtain ⟨K', k1, k2, k3⟩ := app_moved (hR.drew d) (σ' := σ ++ [.tail (xs.length + ys.length) (ty e).sz]) σ.length (ty e).sz (xs.length + ys.length) nc e xs ys cc cc2 rest
        (fun k => if k = xs.length + ys.length then some (some ⟨w.heap.size, 0, none⟩, nc) else none) hs1' hs2' hvr1 hvr2 h1 h2 rfl g1 g2 (by simp) (by simp) (by simp)
        (fun q o' hq hg => by
          rw [List.getElem?_append] at hg
          split at hg
          · exact hg
          · cases hk : q - σ.length with
            | zero => omega
            | succ j => rw [hk] at hg; simp at hg)
        (by simp) (fun k hk => by rw [if_neg (by omega)]) (fun h => absurd h (Nat.lt_irrefl _))
      exact ⟨_, K', _, g3, k1, k2, k3.drew d⟩
  | own id =>
    simp only at h
    split at h
    case h_2 => cases h
    rename_i m s hg
    split at h
    case isFalse => cases h
    rename_i hms
    obtain ⟨rfl, rfl⟩ := hms
    simp only [Option.some.injEq, Prod.mk.injEq] at h
    obtain ⟨rfl, rfl⟩ := h
    obtain ⟨hid, htl⟩ := htok
    obtain ⟨a', cap', q1, q2, q3, q4⟩ := hR.obj id _ hg
    rw [htl] at q1; simp only [Option.some.injEq, Prod.mk.injEq] at q1
    obtain ⟨rfl, rfl⟩ := q1
    have hsl : ∀ o, (hset σ id o).length = σ.length := fun o => by simp [hset]
    by_cases hle : xs.length + ys.length ≤ cap
    · by_cases hyn : ys = []
      · have hy0 : ys.length = 0 := by rw [hyn]; rfl
        have hc0 : cc2 = [] := List.eq_nil_of_length_eq_zero (by rw [hl2, hy0]; simp)
        have hrun := hroom w hle (fun b _ => by subst hc0; rfl) (fun _ => rfl)
        have hσ : hset σ id (.tail (xs.length + ys.length) (ty e).sz) = σ := by
          rw [hy0, Nat.add_zero]
          apply List.ext_getElem?
          intro q
          by_cases e : q = id
          · subst e; rw [hset_get_same hid]; exact hg.symm
          · simp [hset, List.getElem?_set, Ne.symm e]
        rw [hσ]
        refine ⟨_, K, w, hrun, ?_, hR, .refl _ _ _⟩
        rw [hxy]
        refine VR.of_row (cc := cc) (by rw [← hxy]; exact hle) ⟨hid, ?_⟩ ?_ ?_ h1 (fun hne => ?_)
        · subst hyn; simpa using htl
        · subst hyn; simpa using hs1'
        · subst hyn; simp only [List.append_nil]; exact hvr1
        · subst hyn; simp only [List.append_nil] at hne
          exact ha hne
      · have hy1 : 0 < ys.length := List.length_pos_iff.2 hyn
        obtain ⟨b, o, cells, E, rfl, q5, q6, q7⟩ := q4 (by omega)
        obtain ⟨K', w', k1, k2, k3, k4⟩ := app_inplace (P := P) hR id (ty e).sz (xs.length + ys.length) cap b o E xs ys cc cc2 cells hs1' hs2' hvr1 hvr2 h1 h2
          (fun hne => by obtain ⟨b', o', e1, e2⟩ := ha hne; simp at e1; obtain ⟨rfl, rfl⟩ := e1; exact e2) rfl hle hyn hg htl q3 q5 q6 q7
        have hrun := hroom w' hle (fun b' hb => by simp at hb; subst hb; exact k1) (fun h => by cases h)
        exact ⟨_, K', w', hrun, k2, k3, k4⟩
    · obtain ⟨nc, rest, d, g1, g2, g3⟩ := hgrow (by omega)
      obtain ⟨K', k1, k2, k3⟩ := app_moved (hR.drew d) (σ' := hset σ id (.tail (xs.length + ys.length) (ty e).sz)) id (ty e).sz (xs.length + ys.length) nc e xs ys cc cc2 rest
        (fun k => if k = xs.length + ys.length then some (some ⟨w.heap.size, 0, none⟩, nc) else K.tl id k) hs1' hs2' hvr1 hvr2 h1 h2 rfl g1 g2 (by rw [hsl]; exact Nat.le_refl _) (by rw [hsl]; exact hid) (hset_get_same hid)
        (fun q o' hq hg => hset_get_other hq hg)
        (by simp) (fun k hk => by rw [if_neg (by omega)]; exact q3 k (by omega)) (fun _ k x hx => by
          by_cases e1 : k = xs.length + ys.length
          · rw [e1, q3 _ (by omega)] at hx; cases hx
          · rw [if_neg e1]; exact hx)
      exact ⟨_, K', _, g3, k1, k2, k3.drew d⟩

end Go.Mu
