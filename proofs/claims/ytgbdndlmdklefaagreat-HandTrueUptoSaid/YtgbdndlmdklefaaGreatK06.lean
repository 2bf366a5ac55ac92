/- The operations at hand: plain touches alone. -/
import Derived.Test.YtgbdndlmdklefaaGreatK05
import Derived.Conc.Own
import Derived.Conc.Listed
set_option linter.unusedSimpArgs false
set_option linter.unusedVariables false
namespace Go.Mu
open Go
section
variable {P : Program} {α β : Type} {Φ : α → Prop}
theorem Tm_pure {a : α} (h : Φ a) : Tm P (Pure.pure a : Sem α) Φ := h
theorem Tm_stuck {s : String} : Tm P (stuck s : Sem α) Φ := trivial
theorem Tm_unsup {u : Unsupported} : Tm P (unsupported u : Sem α) Φ := trivial
theorem Tm_program {Φ : Program → Prop} (h : Φ P) : Tm P program Φ := h
theorem Tm_load {a : Addr} {Φ : Value → Prop} (h : ∀ v, Φ v) : Tm P (load a) Φ := ⟨rfl, h⟩
theorem Tm_store {a : Addr} {v : Value} {Φ : Unit → Prop} (h : Φ ()) : Tm P (store a v) Φ := ⟨rfl, h⟩
theorem Tm_new {o : Obj} {Φ : Nat → Prop} (ho : okObj o = true) (h : ∀ r, Φ r) : Tm P (newObj o) Φ := ⟨ho, h⟩
theorem Tm_getObj {r : Nat} {Φ : Obj → Prop} (h : ∀ o, Φ o) : Tm P (getObj r) Φ := h
theorem Tm_setObj {r : Nat} {o : Obj} {Φ : Unit → Prop} (ho : okObj o = true) (h : Φ ()) : Tm P (setObj r o) Φ := ⟨ho, h⟩
theorem Tm_choose {q : Question} {Φ : Nat → Prop} (h : ∀ r, Φ r) : Tm P (choose q) Φ := h
theorem Tm_askRoom {b : Nat} {Φ : Unit → Prop} (h : Φ ()) : Tm P (askRoom b) Φ := by
 unfold askRoom; split
 ·exact .inl ⟨rfl, h⟩
 ·exact h
theorem Tm_map {β : Type} {x : Sem α} {f : α → β} {Φ : β → Prop} (h : Tm P x fun a => Φ (f a)) : Tm P (Functor.map f x) Φ := by
 show Tm P (x.bind fun a => .pure (f a)) Φ
 exact Tm_bind (x := x) (f := fun a => Sem.pure (f a)) h
theorem Tm_typeInfo {t : TypeId} {Φ : TypeInfo → Prop} (h : ∀ i, Φ i) : Tm P (typeInfo t) Φ := by
 unfold typeInfo; refine Tm_bind (Tm_program ?_); split
 ·exact h _
 ·trivial
theorem Tm_underlying {t : TypeId} {Φ : TypeDesc → Prop} (h : ∀ i, Φ i) : Tm P (underlying t) Φ := by
 unfold underlying; refine Tm_bind (Tm_program ?_); split
 ·exact h _
 ·trivial
theorem Tm_underlyingP {t : TypeId} {Φ : TypeDesc → Prop} (h : ∀ i, P.underlying t = some i → Φ i) : Tm P (underlying t) Φ := by
 unfold underlying; refine Tm_bind (Tm_program ?_); split
 ·rename_i d hd; exact h _ hd
 ·trivial
theorem Tm_zeroValue {t : TypeId} {Φ : Value → Prop} (h : ∀ i, Φ i) : Tm P (zeroValue t) Φ := by
 unfold zeroValue; refine Tm_bind (Tm_typeInfo fun i => ?_); split
 ·exact h _
 ·trivial
theorem Tm_sizeOf {t : TypeId} {Φ : Nat → Prop} (h : ∀ i, Φ i) : Tm P (sizeOf t) Φ := by
 unfold sizeOf; exact Tm_bind (Tm_typeInfo fun i => h _)
theorem Tm_isAgg {t : TypeId} {Φ : Bool → Prop} (h : ∀ i, Φ i) : Tm P (isAgg t) Φ := by
 unfold isAgg; refine Tm_bind (Tm_underlying fun i => ?_)
 split <;> exact h _
theorem Tm_elemOf {t : TypeId} {Φ : TypeId → Prop} (h : ∀ i, Φ i) : Tm P (elemOf t) Φ := by
 unfold elemOf; refine Tm_bind (Tm_underlying fun i => ?_)
 split
 ·exact h _
 ·trivial
theorem Tm_loadCellsFrom {a : Addr} {Φ : Array Value → Prop} (h : ∀ i, Φ i) : ∀ (n i : Nat) (acc : Array Value), Tm P (loadCellsFrom a i n acc) Φ
 | 0, i, acc => h _
 | n + 1, i, acc => by unfold loadCellsFrom; exact Tm_bind (Tm_load fun v => Tm_loadCellsFrom h n _ _)
theorem Tm_loadCells {a : Addr} {n : Nat} {Φ : Array Value → Prop} (h : ∀ i, Φ i) : Tm P (loadCells a n) Φ := Tm_loadCellsFrom h _ _ _
theorem Tm_storeCells {a : Addr} {Φ : Unit → Prop} (h : Φ ()) : ∀ (vs : List Value) (i : Nat), Tm P (storeCells a vs i) Φ
 | [], i => h
 | v :: vs, i => by unfold storeCells; exact Tm_bind (Tm_store (Tm_storeCells h vs _))
theorem Tm_loadVar {t : TypeId} {a : Addr} {Φ : Value → Prop} (h : ∀ i, Φ i) : Tm P (loadVar t a) Φ := by
 unfold loadVar; refine Tm_bind (Tm_isAgg fun i => ?_); split
 ·exact Tm_bind (Tm_sizeOf fun n => Tm_bind (Tm_loadCells fun _ => h _))
 ·exact Tm_load h
theorem Tm_storeVar {t : TypeId} {a : Addr} {v : Value} {Φ : Unit → Prop} (h : Φ ()) : Tm P (storeVar t a v) Φ := by
 unfold storeVar; refine Tm_bind (Tm_sizeOf fun n => ?_); split
 ·exact Tm_bind Tm_stuck
 ·exact Tm_storeCells h _ _
theorem Tm_newRow {t : TypeId} {cs : Array Value} {Φ : Addr → Prop} (h : ∀ i, Φ i) : Tm P (newRow t cs) Φ := by
 unfold newRow; exact Tm_bind (Tm_new rfl fun _ => h _)
theorem Tm_newVar {t : TypeId} {v : Value} {Φ : Addr → Prop} (h : ∀ i, Φ i) : Tm P (newVar t v) Φ := Tm_newRow h
theorem Tm_part {t : TypeId} {cs : Array Value} {off : Nat} {Φ : Value → Prop} (h : ∀ v, Φ v) : Tm P (part t cs off) Φ := by
 unfold part; refine Tm_bind (Tm_isAgg fun i => ?_); split
 ·exact Tm_bind (Tm_sizeOf fun n => h _)
 ·split
  ·exact h _
  ·trivial
theorem Tm_runtimePanic {e : RuntimeError} : Tm P (runtimePanic e : Sem α) Φ := by
 unfold runtimePanic; refine Tm_bind (Tm_program ?_)
 cases e <;> first
  | trivial
  | exact Tm_bind (Tm_elemOf fun _ => Tm_bind (Tm_newVar fun _ => trivial))
theorem Tm_boundsPanic {k : IntKind} {x y : Int} {c : BoundsCode} : Tm P (boundsPanic k x y c : Sem α) Φ := by
 unfold boundsPanic; dsimp only
 split
 ·exact Tm_bind (Tm_map (Tm_choose fun _ => Tm_runtimePanic))
 ·exact Tm_bind (Tm_pure Tm_runtimePanic)
theorem Tm_asIntOf {v : Value} {Φ : IntKind × Int → Prop} (h : ∀ i, Φ i) : Tm P (asIntOf v) Φ := by
 unfold asIntOf; split <;> first | exact h _ | trivial
theorem Tm_asInt {v : Value} {Φ : Int → Prop} (h : ∀ i, Φ i) : Tm P (asInt v) Φ := by
 unfold asInt; exact Tm_bind (Tm_asIntOf fun _ => h _)
theorem Tm_asBool {v : Value} {Φ : Bool → Prop} (h : ∀ i, Φ i) : Tm P (asBool v) Φ := by
 unfold asBool; split <;> first | exact h _ | trivial
theorem Tm_asAddr {v : Value} {Φ : Addr → Prop} (h : ∀ i, Φ i) : Tm P (asAddr v) Φ := by
 unfold asAddr; split <;> first | exact h _ | trivial | exact Tm_runtimePanic
theorem Tm_sureAddr {v : Value} {Φ : Addr → Prop} (h : ∀ i, Φ i) : Tm P (Instr.sureAddr v) Φ := by
 unfold Instr.sureAddr; split <;> first | exact h _ | trivial
theorem Tm_ite {c : Prop} [Decidable c] {x y : Sem α} (h1 : Tm P x Φ) (h2 : Tm P y Φ) : Tm P (if c then x else y) Φ := by split <;> assumption
end
variable {P : Program}
abbrev Any {α : Type} : α → Prop := fun _ => True
theorem Tm_loadAt {t : TypeId} {v : Value} : Tm P (Instr.loadAt t v) Any := by
 unfold Instr.loadAt; exact Tm_bind (Tm_sureAddr fun _ => Tm_loadVar fun _ => trivial)
theorem Tm_storeAt {t : TypeId} {v x : Value} : Tm P (Instr.storeAt t v x) Any := by
 unfold Instr.storeAt; exact Tm_bind (Tm_sureAddr fun _ => Tm_storeVar trivial)
theorem Tm_alloc {t : TypeId} : Tm P (Instr.alloc t true (.tuple #[])) Any := by
 unfold Instr.alloc; exact Tm_bind (Tm_zeroValue fun _ => Tm_bind (Tm_newVar fun _ => trivial))
theorem Tm_box {t : TypeId} {v : Value} : Tm P (Instr.box t v) Any := by
 unfold Instr.box; exact Tm_bind (Tm_newVar fun _ => trivial)
theorem Tm_lenOf {v : Value} {Φ : Nat → Prop} (h : ∀ n, Φ n) : Tm P (Builtin.lenOf v) Φ := by
 unfold Builtin.lenOf; split <;> first | exact h _ | trivial
theorem Tm_firstCells {size n : Nat} {v : Value} {Φ : Array Value → Prop} (h : ∀ n, Φ n) : Tm P (Builtin.firstCells size n v) Φ := by
 unfold Builtin.firstCells; split <;> first | exact h _ | trivial | exact Tm_loadCells h
theorem Tm_copy {ats : Array TypeId} {ty : TypeId} {args : Array Value} : Tm P (Builtin.copy_ ats ty args) Any := by
 unfold Builtin.copy_
 dsimp only
 split
 ·refine Tm_bind (Tm_underlying fun d => ?_)
  split
  ·split
   ·refine Tm_bind (Tm_lenOf fun n => Tm_bind (Tm_sizeOf fun m => Tm_bind (Tm_firstCells fun cs => ?_)))
    split
    ·exact Tm_bind (Tm_storeCells trivial _ _)
    ·trivial
   ·trivial
  ·trivial
 ·trivial
theorem Tm_makeMap {t : TypeId} : Tm P (Instr.makeMap t none) Any := by
 unfold Instr.makeMap; exact Tm_bind (Tm_new rfl fun _ => trivial)
theorem Tm_entry {v : Value} : Tm P (Instr.entry v) Any := by
 unfold Instr.entry
 split
 ·refine Tm_bind (Tm_getObj fun o => ?_)
  split
  ·split
   ·refine Tm_bind (Tm_getObj fun o => ?_)
    split
    ·dsimp only
     split
     ·exact Tm_bind Tm_unsup
     ·split <;> trivial
    ·trivial
   ·trivial
  ·trivial
 ·trivial
theorem Tm_range {t : TypeId} {v : Value} : Tm P (Instr.range t v) Any := by
 unfold Instr.range
 refine Tm_bind (Tm_underlying fun d => ?_)
 dsimp only
 split
 ·exact Tm_bind (Tm_pure (Tm_bind (Tm_new rfl fun _ => trivial)))
 ·exact Tm_bind (Tm_pure (Tm_bind (Tm_new rfl fun _ => trivial)))
 ·refine Tm_bind (Tm_getObj fun o => ?_)
  split
  ·exact Tm_bind (Tm_pure (Tm_bind (Tm_new rfl fun _ => trivial)))
  ·trivial
 ·trivial
theorem Tm_next {v : Value} {b : Bool} {ty : TypeId} : Tm P (Instr.next v b ty) Any := by
 unfold Instr.next
 dsimp only
 split
 ·refine Tm_bind (Tm_getObj fun o => ?_)
  split
  ·split
   ·exact Tm_bind (Tm_setObj rfl trivial)
   ·trivial
  ·trivial
  ·refine Tm_bind (Tm_getObj fun o => ?_)
   split
   ·split
    ·exact Tm_bind Tm_unsup
    ·refine Tm_bind (Tm_choose fun n => ?_)
     split
     ·exact Tm_bind (Tm_setObj rfl trivial)
     ·trivial
     ·trivial
   ·trivial
  ·trivial
 ·trivial
/-! ### what looks at values alone -/
theorem Tm_build {t : TypeId} {ps : Array (Nat × Value)} : Tm P (Instr.build t ps) Any := by
 unfold Instr.build
 refine Tm_bind (Tm_zeroValue fun z => ?_)
 dsimp only
 refine Tm_bind (Tm_underlying fun d => ?_)
 split
 ·rename_i fs
  have hm : ∀ (l : List (Field)), Tm P (l.mapM fun f => do pure (f.offset, ← sizeOf f.type) : Sem (List (Nat × Nat))) Any := by
   intro l
   induction l with
   | nil => trivial
   | cons f l ih =>
    rw [List.mapM_cons]
    exact Tm_bind (Tm_bind (Tm_sizeOf fun n => Tm_pure (Tm_bind (Tm_mono ih fun _ _ => trivial))))
  rw [Array.mapM_eq_mapM_toList]
  refine Tm_bind (Tm_map (Tm_mono (hm _) fun _ _ => ?_))
  split <;> trivial
 ·refine Tm_bind (Tm_sizeOf fun n => ?_)
  split <;> trivial
 ·trivial
theorem Tm_buildSlice {t : TypeId} {n : Nat} {ps : Array (Nat × Value)} : Tm P (Instr.buildSlice t n ps) Any := by
 unfold Instr.buildSlice
 refine Tm_bind (Tm_underlying fun d => ?_)
 split
 ·refine Tm_bind (Tm_sizeOf fun m => ?_)
  dsimp only
  split
  ·exact Tm_bind Tm_unsup
  ·split
   ·refine Tm_bind (Tm_pure ?_)
    split
    ·exact Tm_bind (Tm_newRow fun _ => trivial)
    ·trivial
   ·refine Tm_bind (Tm_zeroValue fun z => Tm_bind (Tm_pure ?_))
    split
    ·exact Tm_bind (Tm_newRow fun _ => trivial)
    ·trivial
 ·trivial
theorem Tm_sizeOfP {t : TypeId} {Φ : Nat → Prop} (h : ∀ i, P.info? t = some i → Φ i.size) : Tm P (sizeOf t) Φ := by
 unfold sizeOf typeInfo
 refine Tm_bind (Tm_bind (Tm_program ?_))
 split
 ·rename_i i hi; exact h i hi
 ·trivial
theorem Tm_sizeOf_run {t : TypeId} {n : Nat} {w : World} (hn : (sizeOf t).run P w = .ok n w) {Φ : Nat → Prop} (h : Φ n) : Tm P (sizeOf t) Φ := by
 refine Tm_sizeOfP fun i hi => ?_
 unfold sizeOf typeInfo at hn
 simp [program, Sem.run, hi] at hn
 rw [hn]; exact h
theorem Tm_fieldAt {t : TypeId} {v : Value} {f : Nat} (hf : ∀ fs g, P.underlying t = some (.struct fs) → fs[f]? = some g → ∃ n w, (sizeOf g.type).run P w = .ok n w ∧ n ≠ 0) : Tm P (Instr.fieldAt t v f) Any := by
 unfold Instr.fieldAt
 refine Tm_bind (Tm_underlyingP fun d hd => ?_)
 split
 ·split
  ·rename_i fs _ g hg
   obtain ⟨n, w, h1, h2⟩ := hf fs g hd hg
   refine Tm_bind (Tm_sureAddr fun a => Tm_bind ?_)
   unfold fieldPlace
   refine Tm_bind (Tm_sizeOf_run h1 ?_)
   rw [if_neg h2]; trivial
  ·trivial
 ·trivial
theorem Tm_index {t : TypeId} {x i : Value} : Tm P (Instr.index t x i) Any := by
 unfold Instr.index
 refine Tm_bind (Tm_asIntOf fun p => ?_)
 dsimp only
 refine Tm_bind (Tm_underlying fun d => ?_)
 split
 ·split
  ·exact Tm_bind (Tm_sizeOf fun n => Tm_part fun _ => trivial)
  ·exact Tm_boundsPanic
 ·split
  ·trivial
  ·exact Tm_boundsPanic
 ·trivial
theorem Tm_indexAt {t : TypeId} {x i : Value} : Tm P (Instr.indexAt t x i) Any := by
 unfold Instr.indexAt
 refine Tm_bind (Tm_asIntOf fun p => ?_)
 dsimp only
 refine Tm_bind (Tm_underlying fun d => ?_)
 have key : ∀ (q : Option Addr × Nat × TypeId), Tm P (do
   let __do_lift ← underlying t
   match q.1 with
   | some a =>
    if 0 ≤ p.2 ∧ p.2 < (q.2.1 : Int) then do
     let __do_lift ← sizeOf q.2.2
     pure (Value.pointer (some (a.add (p.2.toNat * __do_lift))))
    else
     if (decide (q.2.1 ≤ 1) && match __do_lift with | TypeDesc.array len elem => true | x => false) = true then
      unsupported (Unsupported.noEntry "op/indexAddr.an index out of range at an array of length 0 or 1 (ledger 616)")
     else boundsPanic p.1 p.2 (q.2.1 : Int) BoundsCode.index
   | none => boundsPanic p.1 p.2 0 BoundsCode.index : Sem Value) Any := by
  intro q
  refine Tm_bind (Tm_underlying fun d => ?_)
  cases q.1 with
  | none => exact Tm_boundsPanic
  | some a => exact Tm_ite (Tm_bind (Tm_sizeOf fun n => trivial)) (Tm_ite trivial Tm_boundsPanic)
 split
 ·exact Tm_bind (Tm_sureAddr fun a => Tm_bind (Tm_pure (key (some a, _, _))))
 ·exact Tm_bind (Tm_pure (key (_, _, _)))
 ·trivial
theorem Tm_field {t : TypeId} {x : Value} {f : Nat} : Tm P (Instr.field t x f) Any := by
 unfold Instr.field
 refine Tm_bind (Tm_underlying fun d => ?_)
 split
 ·split
  ·refine Tm_bind ?_
   unfold asAgg
   split
   ·exact Tm_part fun _ => trivial
   ·trivial
  ·trivial
 ·trivial
theorem Tm_extract {x : Value} {i : Nat} : Tm P (Instr.extract x i) Any := by
 unfold Instr.extract
 split
 ·split <;> trivial
 ·trivial
theorem Tm_makeInterface {t : TypeId} {x : Value} : Tm P (Instr.makeInterface t x) Any := by
 unfold Instr.makeInterface
 refine Tm_bind (Tm_underlying fun d => ?_)
 split <;> trivial
theorem Tm_typeAssert {x : Value} {t u : TypeId} {ok : Bool} : Tm P (Instr.typeAssert x t u ok) Any := by
 unfold Instr.typeAssert
 dsimp only
 have hf : ∀ (a b : Option TypeId) (m : String), Tm P (if ok = true then do
   let __do_lift ← zeroValue u
   pure (Value.tuple #[__do_lift, Value.bool false])
  else runtimePanic (RuntimeError.typeAssertion a b u m) : Sem Value) Any := fun a b m => Tm_ite (Tm_bind (Tm_zeroValue fun _ => trivial)) Tm_runtimePanic
 refine Tm_bind (Tm_underlying fun d => ?_)
 split
 ·exact hf _ _ _
 ·refine Tm_bind (Tm_typeInfo fun i => ?_)
  split
  ·trivial
  ·exact hf _ _ _
 ·exact hf _ _ _
 ·exact Tm_ite trivial (hf _ _ _)
 ·trivial
theorem Tm_sliceBound {x : Value} {y : Nat} {c : BoundsCode} {Φ : Nat → Prop} (h : ∀ n, Φ n) : Tm P (Instr.sliceBound x y c) Φ := by
 unfold Instr.sliceBound
 refine Tm_bind (Tm_asIntOf fun p => ?_)
 dsimp only
 exact Tm_ite (h _) Tm_boundsPanic
theorem Tm_sliceBounds {b : Bool} {l c : Nat} {lo hi mx : Option Value} {Φ : Nat × Nat × Nat → Prop} (h : ∀ n, Φ n) : Tm P (Instr.sliceBounds b l c lo hi mx) Φ := by
 unfold Instr.sliceBounds
 dsimp only
 cases mx with
 | none =>
  simp only
  cases hi with
  | none => cases lo with
   | none => exact Tm_bind (Tm_pure (Tm_bind (Tm_pure (Tm_bind (Tm_pure (h _))))))
   | some z => exact Tm_bind (Tm_pure (Tm_bind (Tm_pure (Tm_bind (Tm_sliceBound fun _ => h _)))))
  | some y => cases lo with
   | none => exact Tm_bind (Tm_pure (Tm_bind (Tm_sliceBound fun _ => Tm_bind (Tm_pure (h _)))))
   | some z => exact Tm_bind (Tm_pure (Tm_bind (Tm_sliceBound fun _ => Tm_bind (Tm_sliceBound fun _ => h _))))
 | some x =>
  simp only
  cases hi with
  | none => exact Tm_bind (Tm_sliceBound fun _ => Tm_bind trivial)
  | some y => cases lo with
   | none => exact Tm_bind (Tm_sliceBound fun _ => Tm_bind (Tm_sliceBound fun _ => Tm_bind (Tm_pure (h _))))
   | some z => exact Tm_bind (Tm_sliceBound fun _ => Tm_bind (Tm_sliceBound fun _ => Tm_bind (Tm_sliceBound fun _ => h _)))
theorem Tm_slice {t : TypeId} {x : Value} {lo hi mx : Option Value} : Tm P (Instr.slice t x lo hi mx) Any := by
 unfold Instr.slice
 refine Tm_bind (Tm_underlying fun d => ?_)
 split
 ·dsimp only
  exact Tm_ite (Tm_bind Tm_stuck) (Tm_bind (Tm_sliceBounds fun _ => trivial))
 ·exact Tm_bind (Tm_sliceBounds fun _ => Tm_bind (Tm_sizeOf fun _ => trivial))
 ·refine Tm_bind (Tm_asAddr fun a => Tm_bind (Tm_underlying fun d => ?_))
  split
  ·exact Tm_bind (Tm_sliceBounds fun _ => Tm_bind (Tm_sizeOf fun _ => trivial))
  ·trivial
 ·trivial
theorem Tm_sliceAt {t : TypeId} {x : Value} {lo hi mx : Option Value} : Tm P (Instr.sliceAt t x lo hi mx) Any := by
 unfold Instr.sliceAt
 refine Tm_bind (Tm_underlying fun d => ?_)
 split
 ·exact Tm_bind (Tm_sureAddr fun a => Tm_bind (Tm_sliceBounds fun _ => Tm_bind (Tm_sizeOf fun _ => trivial)))
 ·exact Tm_slice
theorem Tm_makeSlice {t : TypeId} {l c : Value} : Tm P (Instr.makeSlice t l c) Any := by
 unfold Instr.makeSlice
 refine Tm_bind (Tm_underlying fun d => ?_)
 split
 ·refine Tm_bind (Tm_asInt fun l => Tm_bind (Tm_asInt fun c => Tm_bind (Tm_typeInfo fun i => ?_)))
  dsimp only
  have key : ∀ (r : Unit) (e : TypeId) (l c : Int) (i : TypeInfo), Tm P (do
    askRoom ((IntKind.i64.wrap c).toNat * i.bytes)
    let __do_lift ← sizeOf e
    let __do_jp : Array Value → Sem Value := fun zero => do
     let a ← newRow e ((Array.range ((IntKind.i64.wrap c).toNat * __do_lift)).map fun x => zero[x % zero.size]!)
     pure (.slice (some a) (IntKind.i64.wrap l).toNat (IntKind.i64.wrap c).toNat)
    if (IntKind.i64.wrap c).toNat * __do_lift = 0 then do
     let y ← pure #[]
     __do_jp y
    else do
     let y ← zeroValue e
     let y ← pure y.cells
     __do_jp y : Sem Value) Any := by
   intro r e l c i
   refine Tm_bind (Tm_askRoom (Tm_bind (Tm_sizeOf fun n => ?_)))
   dsimp only
   exact Tm_ite (Tm_bind (Tm_pure (Tm_bind (Tm_newRow fun _ => trivial)))) (Tm_bind (Tm_zeroValue fun z => Tm_bind (Tm_pure (Tm_bind (Tm_newRow fun _ => trivial)))))
  split
  ·split
   ·exact Tm_bind Tm_runtimePanic
   ·split
    ·exact Tm_bind Tm_runtimePanic
    ·exact Tm_bind (Tm_choose fun _ => Tm_bind Tm_runtimePanic)
  ·exact key () _ _ _ _
 ·trivial
theorem Tm_len {ats : Array TypeId} {ty : TypeId} {args : Array Value} : Tm P (Builtin.len_ ats ty args) Any := by
 unfold Builtin.len_
 split
 ·refine Tm_bind (Tm_underlying fun d => ?_)
  split <;> first
   | trivial
   | (refine Tm_bind (Tm_getObj fun o => ?_); split <;> trivial)
   | (refine Tm_bind (Tm_underlying fun d => ?_); split <;> trivial)
 ·trivial
/-! ### values without addresses -/
inductive Flat : Value → Prop
 | bool (b : Bool) : Flat (.bool b)
 | int (k : IntKind) (n : Int) : Flat (.int k n)
 | str (s : ByteArray) : Flat (.string s)
 | agg (cs : Array Value) (h : ∀ i (h : i < cs.size), Flat cs[i]) : Flat (.agg cs)
theorem Tm_partF {t : TypeId} {cs : Array Value} {off : Nat} {Φ : Value → Prop} (hc : Flat (.agg cs)) (h : ∀ v, Flat v → Φ v) : Tm P (part t cs off) Φ := by
 cases hc with
 | agg _ hc =>
  unfold part; refine Tm_bind (Tm_isAgg fun i => ?_); split
  ·refine Tm_bind (Tm_sizeOf fun n => h _ (.agg _ fun i hi => ?_))
   rw [Array.getElem_extract]; exact hc _ _
  ·split
   ·rename_i v hv
    obtain ⟨h1, rfl⟩ := Array.getElem?_eq_some_iff.1 hv
    exact h _ (hc _ h1)
   ·trivial
theorem Tm_forIn {α β : Type} {f : α → β → Sem (ForInStep β)} {Φ : β → Prop} (h : ∀ b, Φ b) (hf : ∀ a b, Tm P (f a b) Any) : ∀ (l : List α) (b : β), Tm P (forIn l b f) Φ
 | [], b => by rw [List.forIn_nil]; exact h b
 | a :: l, b => by
  rw [List.forIn_cons]
  refine Tm_bind (Tm_mono (hf a b) fun s _ => ?_)
  cases s with
  | done b => exact h b
  | yield b => exact Tm_forIn h hf l b
theorem Tm_forInA {α β : Type} {f : α → β → Sem (ForInStep β)} {Φ : β → Prop} (h : ∀ b, Φ b) (hf : ∀ a b, Tm P (f a b) Any) (l : Array α) (b : β) : Tm P (forIn l b f) Φ := by
 rw [← Array.forIn_toList]; exact Tm_forIn h hf _ _
theorem Tm_forInR {β : Type} {f : Nat → β → Sem (ForInStep β)} {Φ : β → Prop} (h : ∀ b, Φ b) (hf : ∀ a b, Tm P (f a b) Any) (n : Nat) (b : β) : Tm P (forIn [0:n] b f) Φ := by
 rw [Std.Legacy.Range.forIn_eq_forIn_range']; exact Tm_forIn h hf _ _
theorem Tm_equalIn : ∀ (d : Nat) (t : TypeId) (x y : Value), Flat x → Tm P (Op.equalIn d t x y) Any
 | 0, _, _, _, _ => trivial
 | d + 1, t, x, y, hx => by
  unfold Op.equalIn
  refine Tm_bind (Tm_underlying fun u => ?_)
  have hx' := hx
  cases hx <;> dsimp only <;> split <;> first
   | trivial
   | exact Tm_ite trivial trivial
   | (exfalso; simp_all; done)
   | skip
  ·rename_i xs ys hxs
   have hxs := (Value.agg.inj hxs).symm; subst hxs
   refine Tm_bind (Tm_program ?_)
   refine Tm_ite (Tm_bind Tm_unsup) (Tm_bind (Tm_forInA (fun b => ?_) (fun f b => ?_) _ _))
   ·cases b.1 <;> trivial
   ·refine Tm_ite (Tm_bind (Tm_partF hx' fun v hv => Tm_bind (Tm_part fun w => Tm_bind (Tm_mono (Tm_equalIn d _ _ _ hv) fun b _ => ?_)))) trivial
    exact Tm_ite trivial trivial
  ·rename_i xs ys hxs
   have hxs := (Value.agg.inj hxs).symm; subst hxs
   refine Tm_bind (Tm_sizeOf fun n => Tm_bind (Tm_forInR (fun b => ?_) (fun f b => ?_) _ _))
   ·cases b.1 <;> trivial
   ·refine Tm_bind (Tm_partF hx' fun v hv => Tm_bind (Tm_part fun w => Tm_bind (Tm_mono (Tm_equalIn d _ _ _ hv) fun b _ => ?_)))
    exact Tm_ite trivial trivial
theorem Tm_equal {t : TypeId} {x y : Value} (h : Flat x) : Tm P (Op.equal t x y) Any := Tm_equalIn _ _ _ _ h
theorem Tm_checkKey {e : Bool} : ∀ (n : Nat) (t : TypeId) (x : Value) {Φ : Unit → Prop}, Flat x → Φ () → Tm P (Instr.checkKey e n t x) Φ
 | 0, _, _, _, _, _ => trivial
 | n + 1, t, x, Φ, hx, hΦ => by
  unfold Instr.checkKey
  refine Tm_bind (Tm_underlying fun u => ?_)
  have hx' := hx
  cases hx <;> dsimp only <;> split <;> first
   | trivial
   | exact hΦ
   | (exfalso; simp_all; done)
   | skip
  ·rename_i xs hxs
   have hxs := (Value.agg.inj hxs).symm; subst hxs
   refine Tm_bind (Tm_forInR (fun b => hΦ) (fun f b => ?_) _ _)
   refine Tm_bind (Tm_sizeOf fun m => Tm_bind (Tm_partF hx' fun v hv => Tm_bind (Tm_checkKey n _ _ hv trivial)))
  ·rename_i xs hxs
   have hxs := (Value.agg.inj hxs).symm; subst hxs
   refine Tm_bind (Tm_forInA (fun b => hΦ) (fun f b => ?_) _ _)
   exact Tm_ite (Tm_bind (Tm_partF hx' fun v hv => Tm_bind (Tm_checkKey n _ _ hv trivial))) trivial
theorem Tm_findAsking {t : TypeId} {k : Value} {Φ : Option (Nat × Value) → Prop} (hk : Flat k) (h : ∀ r, Φ r) : ∀ (es : List MapEntry) (i : Nat), Tm P (Instr.findAsking t k es i) Φ
 | [], i => h _
 | e :: es, i => by
  unfold Instr.findAsking
  refine Tm_bind (Tm_mono (Tm_equal hk) fun b _ => ?_)
  exact Tm_ite (h _) (Tm_findAsking hk h es _)
theorem Tm_findKey {t : TypeId} {k : Value} {es : List MapEntry} {Φ : Option (Nat × Value) → Prop} (hk : Flat k) (h : ∀ r, Φ r) : Tm P (Instr.findKey t k es) Φ := by
 unfold Instr.findKey
 refine Tm_bind (Tm_underlying fun u => ?_)
 split
 ·exact h _
 ·exact Tm_findAsking hk h _ _
theorem Tm_lookup {t : TypeId} {m k : Value} {ok : Bool} (hk : Flat k) : Tm P (Instr.lookup t m k ok) Any := by
 unfold Instr.lookup
 refine Tm_bind (Tm_underlying fun u => ?_)
 have tail : ∀ (key elem : TypeId) (es : Array MapEntry), Tm P (do
   Instr.checkKey es.isEmpty 10000 key k
   let __do_lift ← Instr.findKey key k es.toList
   let __do_jp : Value × Bool → Sem Value := fun __x => match __x with | (v, ok') => pure (if ok = true then .tuple #[v, .bool ok'] else v)
   match __do_lift with
   | some (_, v) => do
    let __x ← pure (v, true)
    __do_jp __x
   | none => do
    let __do_lift ← zeroValue elem
    let __x ← pure (__do_lift, false)
    __do_jp __x : Sem Value) Any := by
  intro key elem es
  refine Tm_bind (Tm_checkKey _ _ _ hk (Tm_bind (Tm_findKey hk fun r => ?_)))
  dsimp only
  split
  ·trivial
  ·exact Tm_bind (Tm_zeroValue fun z => trivial)
 split
 ·dsimp only
  split
  ·exact Tm_bind (Tm_pure (tail _ _ _))
  ·refine Tm_bind (Tm_getObj fun o => ?_)
   split
   ·exact Tm_bind (Tm_pure (tail _ _ _))
   ·trivial
  ·trivial
 ·trivial
theorem Tm_mapUpdate {t : TypeId} {m k x : Value} (hk : Flat k) : Tm P (Instr.mapUpdate t m k x) Any := by
 unfold Instr.mapUpdate
 refine Tm_bind (Tm_underlying fun u => ?_)
 split
 ·split
  ·exact Tm_runtimePanic
  ·refine Tm_bind (Tm_getObj fun o => ?_)
   split
   ·refine Tm_bind (Tm_checkKey _ _ _ hk (Tm_bind (Tm_findKey hk fun r => ?_)))
    split
    ·refine Tm_bind ?_
     unfold Instr.keyThatStays
     refine Tm_ite ?_ (Tm_bind (Tm_choose fun n => ?_)) <;> exact ⟨rfl, trivial⟩
    ·exact Tm_setObj rfl trivial
   ·trivial
  ·trivial
 ·trivial
theorem Tm_mayShare {α : Type} {size n m : Nat} {base : Option Addr} {x : Value} {f : Bool → Sem α} {Φ : α → Prop} (h : ∀ b, Doom P (f b)) (hf : ∀ b, Tm P (f b) Φ) : Tm P (Builtin.mayShare size n m base x >>= f) Φ := by
 have hh : ∀ {β : Type} (a : Addr) (k : Nat) (g : Bool → Sem β) (Ψ : β → Prop), (∀ b, Doom P (g b)) → Tm P (Builtin.holdsCells a k >>= g) Ψ := by
  intro β a k g Ψ hg
  unfold Builtin.holdsCells
  exact fun s => Doom_bind _ _ hg
 unfold Builtin.mayShare
 cases base with
 | none =>
  cases x with
  | slice a l c => cases a with
   | none => exact hf _
   | some b => exact fun s => Doom_bind _ _ fun _ => h _
  | _ => exact hf _
 | some a => exact fun s => Doom_bind _ _ fun _ => h _
theorem Tm_append {ats : Array TypeId} {ty t0 t1 e e' : TypeId} {s x : Value} (g0 : ats[0]? = some t0) (g1 : ats[1]? = some t1) (h0 : P.underlying t0 = some (.slice e)) (h1 : P.underlying t1 = some (.slice e')) : Tm P (Builtin.append_ ats ty #[s, x]) Any := by
 unfold Builtin.append_
 simp only [g0, g1, List.getElem?_toArray, List.getElem?_cons_zero, List.getElem?_cons_succ]
 refine Tm_bind (Tm_underlyingP fun d hd => ?_)
 rw [h0] at hd; cases hd
 simp only
 split
 ·refine Tm_bind (Tm_sizeOf fun size => Tm_bind (Tm_underlyingP fun d hd => ?_))
  rw [h1] at hd; cases hd
  refine Tm_bind (Tm_pure ?_)
  simp only [Bool.false_eq_true, if_false, Bool.not_false, if_true, false_or]
  refine Tm_bind (Tm_lenOf fun n => ?_)
  refine Tm_ite (Tm_bind (Tm_firstCells fun new => ?_)) ?_
  ·split
   ·exact Tm_bind (Tm_storeCells trivial _ _)
   ·trivial
  ·refine Tm_bind (Tm_typeInfo fun i => ?_)
   refine Tm_ite (Tm_bind Tm_runtimePanic) ?_
   refine Tm_bind (Tm_typeInfo fun i => ?_)
   refine Tm_ite ?_ ?_
   ·refine Tm_bind (Tm_mayShare (fun b => ?_) (fun b => ?_))
    ·split
     ·exact Doom_bind _ _ fun _ => trivial
     ·trivial
    ·exact Tm_ite (Tm_bind (.inl ⟨rfl, trivial⟩)) trivial
   ·exact Tm_bind (Tm_choose fun c => Tm_bind (Tm_typeInfo fun i => Tm_bind (Tm_askRoom (Tm_bind (Tm_firstCells fun o => Tm_bind (Tm_firstCells fun o2 => Tm_bind (Tm_zeroValue fun z => Tm_bind (Tm_newRow fun a => trivial))))))))
 ·trivial
theorem Tm_bytes {x : Value} : Tm P (Conv.bytesToString x) Any := by
 unfold Conv.bytesToString
 dsimp only
 split
 ·trivial
 ·refine Tm_bind (Tm_loadCells fun cs => Tm_bind (Tm_forInA (fun b => trivial) (fun a b => ?_) _ _))
  split <;> trivial
 ·trivial
theorem Tm_intArith {op : BinOp} {k : IntKind} {x y : Int} : Tm P (Op.intArith op k x y) Any := by
 unfold Op.intArith; split <;> trivial
theorem Tm_max2 {x y : Value} : Tm P (Builtin.max2 x y) Any := by
 unfold Builtin.max2
 split
 ·trivial
 ·split
  ·exact Tm_bind (Tm_choose fun _ => trivial)
  ·trivial
  ·trivial
  ·trivial
 ·exact Tm_bind (Tm_pure (Tm_bind (Tm_asBool fun b => trivial)))
 all_goals trivial
theorem Tm_min2 {x y : Value} : Tm P (Builtin.min2 x y) Any := by
 unfold Builtin.min2
 split
 ·trivial
 ·split
  ·exact Tm_bind (Tm_choose fun _ => trivial)
  ·trivial
  ·trivial
  ·trivial
 ·exact Tm_bind (Tm_pure (Tm_bind (Tm_asBool fun b => trivial)))
 all_goals trivial
theorem Tm_foldlM {f : Value → Value → Sem Value} (h : ∀ x y, Tm P (f x y) Any) : ∀ (l : List Value) (x : Value), Tm P (l.foldlM f x) Any
 | [], x => trivial
 | y :: l, x => by rw [List.foldlM_cons]; exact Tm_bind (Tm_mono (h _ _) fun z _ => Tm_foldlM h l z)
theorem Tm_max {ats : Array TypeId} {ty : TypeId} {args : Array Value} : Tm P (Builtin.max_ ats ty args) Any := by
 unfold Builtin.max_; split
 ·trivial
 ·exact Tm_foldlM (fun _ _ => Tm_max2) _ _
theorem Tm_min {ats : Array TypeId} {ty : TypeId} {args : Array Value} : Tm P (Builtin.min_ ats ty args) Any := by
 unfold Builtin.min_; split
 ·trivial
 ·exact Tm_foldlM (fun _ _ => Tm_min2) _ _
end Go.Mu
namespace Go.Mu
open Go Go.Conc
structure Rel (V : Nat → Prop) (w w₁ : World) : Prop where
 size : w.heap.size ≤ w₁.heap.size
 keep : ∀ b : Nat, b < w.heap.size → V b → w₁.heap[b]? = w.heap[b]?
 os : w₁.os = w.os
 tape : w₁.tape = w.tape
 output : w₁.output = w.output
theorem Rel.refl (V : Nat → Prop) (w : World) : Rel V w w := ⟨Nat.le_refl _, fun _ _ _ => rfl, rfl, rfl, rfl⟩
theorem Rel.trans {V : Nat → Prop} {w w₁ w₂ : World} (h : Rel V w w₁) (h' : Rel V w₁ w₂) : Rel V w w₂ :=
 ⟨Nat.le_trans h.size h'.size, fun b hb hv => (h'.keep b (Nat.lt_of_lt_of_le hb h.size) hv).trans (h.keep b hb hv), h'.os.trans h.os, h'.tape.trans h.tape, h'.output.trans h.output⟩
def Newer (V : Nat → Prop) (n m : Nat) : Nat → Prop := fun b => V b ∨ (n ≤ b ∧ b < m)
theorem newer_same {V : Nat → Prop} {n : Nat} : Newer V n n = V := by
 funext b; apply propext
 exact ⟨fun h => h.elim id fun g => by omega, .inl⟩
structure Gua (Sh V : Nat → Prop) (w w' : World) (es : Array Event) : Prop where
 size : w.heap.size ≤ w'.heap.size
 keep : ∀ b : Nat, b < w.heap.size → (¬ V b ∨ Sh b) → w'.heap[b]? = w.heap[b]?
 os : w'.os = w.os
 tape : w'.tape = w.tape
 output : w'.output = w.output
 dr : w.drawn ≤ w'.drawn
 evs : ∀ e ∈ es, EvOK w.heap.size (fun b => V b ∧ ¬ Sh b) V w'.heap.size e
theorem Gua.idle (Sh V : Nat → Prop) (w : World) : Gua Sh V w w #[] := ⟨Nat.le_refl _, fun _ _ _ => rfl, rfl, rfl, rfl, Nat.le_refl _, fun e he => by simp at he⟩
theorem Gua.drew (Sh V : Nat → Prop) (w : World) : Gua Sh V w { w with drawn := w.drawn + 1 } #[] := ⟨Nat.le_refl _, fun _ _ _ => rfl, rfl, rfl, rfl, Nat.le_add_right _ _, fun e he => by simp at he⟩
structure RMode (P : Program) where
 main : Bool
 Sh : Nat → Prop
 J : Goroutine → World → (Nat → Prop) → (Goroutine → World → (Nat → Prop) → Prop) → Prop
 ret : ∀ {g w V Post}, Post g w V → J g w V Post
 bind : ∀ {g w V Post Post'}, J g w V Post → (∀ g' w' V', Post g' w' V' → J g' w' V' Post') → J g w V Post'
 step : ∀ {g w V Post}, g.status = .running → (∀ w₁, Rel V w w₁ → ∃ g' w' es, stepG P main g w₁ = .go g' w' es ∧ Gua Sh V w₁ w' es ∧ J g' w' (Newer V w₁.heap.size w'.heap.size) Post) → J g w V Post
abbrev MC (P : Program) := RMode P → Prop
structure OwnV (Sh V : Nat → Prop) (K : Kr) (σ : List AObj) (w : World) : Prop where
 obj : ∀ b, ¬ Free K σ b → V b ∧ ¬ Sh b
 stab : ∀ b o v, K.S b o = some v → V b
 lay : ∀ g cs, layV g = some cs → V g
 sh : ∀ b, Sh b → b < w.heap.size
variable {Sh V V' V'' : Nat → Prop} {K K' K'' : Kr} {σ σ' σ'' : List AObj} {w w₁ w' w'' : World}
theorem not_free {r : Nat} {o : AObj} {b : Nat} (h1 : σ[r]? = some o) (h2 : ObjBlk K r o b) : ¬ Free K σ b := fun h => h r o h1 h2
theorem R.lt_stab (h : R K σ w) {b o : Nat} {v : Value} (hv : K.S b o = some v) : b < w.heap.size := by
 have := h.stab b o v hv
 unfold World.cell? at this
 split at this
 ·rename_i c e f hc; exact (Array.getElem?_eq_some_iff.1 hc).1
 ·cases this
theorem R.lt_obj (h : R K σ w) {b : Nat} (hb : ¬ Free K σ b) : b < w.heap.size := by
 apply Classical.byContradiction
 intro hn
 exact hb fun r o hr hblk => hn ((h.obj r o hr).blk_lt hblk)
theorem R.same (h : R K σ w) (hs : ∀ b o v, K.S b o = some v → w₁.cell? ⟨b, o, none⟩ = w.cell? ⟨b, o, none⟩) (ho : ∀ b, ¬ Free K σ b → w₁.heap[b]? = w.heap[b]?) (hl : ∀ g cs, layV g = some cs → ∃ E fz, w₁.heap[g]? = some (.cells cs E fz)) : R K σ w₁ :=
 ⟨fun b o v hv => by rw [hs b o v hv]; exact h.stab b o v hv,
  fun r o hr => (h.obj r o hr).mono (List.getElem?_eq_some_iff.1 hr).1 (.refl _ _) (Nat.le_refl _) rfl fun b hb => ⟨ho b (not_free hr hb), fun _ => rfl⟩,
  h.inj, fun g cs hg => ⟨hl g cs hg, (h.lay g cs hg).2⟩⟩
theorem R.rely (h : R K σ w) (hO : OwnV Sh V K σ w) (hr : Rel V w w₁) : R K σ w₁ :=
 h.same (fun b o v hv => by
   have := hr.keep b (h.lt_stab hv) (hO.stab b o v hv)
   unfold World.cell?; rw [this])
  (fun b hb => hr.keep b (h.lt_obj hb) (hO.obj b hb).1)
  (fun g cs hg => by
   obtain ⟨⟨E, fz, h1⟩, _⟩ := h.lay g cs hg
   exact ⟨E, fz, by rw [hr.keep g (Array.getElem?_eq_some_iff.1 h1).1 (hO.lay g cs hg)]; exact h1⟩)
theorem OwnV.rely (hO : OwnV Sh V K σ w) (hr : Rel V w w₁) : OwnV Sh V K σ w₁ := ⟨hO.obj, hO.stab, hO.lay, fun b hb => Nat.lt_of_lt_of_le (hO.sh b hb) hr.size⟩
structure StepV (V : Nat → Prop) (K : Kr) (σ : List AObj) (w : World) (V' : Nat → Prop) (K' : Kr) (σ' : List AObj) (w' : World) : Prop where
 ext : Ext σ.length K K'
 len : σ.length ≤ σ'.length
 size : w.heap.size ≤ w'.heap.size
 keep : ∀ b : Nat, b < w.heap.size → V b → Free K σ b → w'.heap[b]? = w.heap[b]? ∧ Free K' σ' b ∧ ∀ o, K'.S b o = K.S b o
 sub : ∀ b, V b → V' b
 new : ∀ b, V' b → V b ∨ w.heap.size ≤ b
 os : w'.os = w.os
 tape : w'.tape = w.tape
 output : w'.output = w.output
theorem StepV.refl (V : Nat → Prop) (K : Kr) (σ : List AObj) (w : World) : StepV V K σ w V K σ w :=
 ⟨.refl _ _, Nat.le_refl _, Nat.le_refl _, fun b _ _ hf => ⟨rfl, hf, fun _ => rfl⟩, fun _ h => h, fun _ h => .inl h, rfl, rfl, rfl⟩
theorem StepV.trans (h : StepV V K σ w V' K' σ' w') (h' : StepV V' K' σ' w' V'' K'' σ'' w'') : StepV V K σ w V'' K'' σ'' w'' :=
 ⟨h.ext.trans h'.ext h.len, Nat.le_trans h.len h'.len, Nat.le_trans h.size h'.size, fun b hb hv hf => by
  obtain ⟨h1, h2, h3⟩ := h.keep b hb hv hf
  obtain ⟨g1, g2, g3⟩ := h'.keep b (Nat.lt_of_lt_of_le hb h.size) (h.sub b hv) h2
  exact ⟨g1.trans h1, g2, fun o => (g3 o).trans (h3 o)⟩, fun b hb => h'.sub b (h.sub b hb), fun b hb => (h'.new b hb).elim (h.new b) (fun g => .inr (Nat.le_trans h.size g)), h'.os.trans h.os, h'.tape.trans h.tape, h'.output.trans h.output⟩
theorem StepV.of_rel (hr : Rel V w w₁) : StepV V K σ w V K σ w₁ :=
 ⟨.refl _ _, Nat.le_refl _, hr.size, fun b hb hv hf => ⟨hr.keep b hb hv, hf, fun _ => rfl⟩, fun _ h => h, fun _ h => .inl h, hr.os, hr.tape, hr.output⟩
theorem StepV.of_step (h : Step K σ w K' σ' w') : StepV V K σ w (Newer V w.heap.size w'.heap.size) K' σ' w' :=
 ⟨h.ext, h.len, h.size, fun b hb _ hf => h.keep b hb hf, fun b hb => .inl hb, fun b hb => hb.imp id (·.1), h.os, h.tape, h.output⟩
theorem StepV.of_mind (h : Step K σ w K' σ' w) : StepV V K σ w V K' σ' w :=
 ⟨h.ext, h.len, h.size, fun b hb _ hf => h.keep b hb hf, fun b hb => hb, fun b hb => .inl hb, h.os, h.tape, h.output⟩
theorem OwnV.step (hO : OwnV Sh V K σ w) (hR' : R K' σ' w') (h : Step K σ w K' σ' w') : OwnV Sh (Newer V w.heap.size w'.heap.size) K' σ' w' := by
 refine ⟨fun b hb => ?_, fun b o v hv => ?_, fun g cs hg => .inl (hO.lay g cs hg), fun b hb => Nat.lt_of_lt_of_le (hO.sh b hb) h.size⟩
 ·rcases Nat.lt_or_ge b w.heap.size with hlt | hge
  ·by_cases hf : Free K σ b
   ·exact absurd (h.keep b hlt hf).2.1 hb
   ·exact ⟨.inl (hO.obj b hf).1, (hO.obj b hf).2⟩
  ·exact ⟨.inr ⟨hge, hR'.lt_obj hb⟩, fun hs => by have := hO.sh b hs; omega⟩
 ·rcases Nat.lt_or_ge b w.heap.size with hlt | hge
  ·by_cases hf : Free K σ b
   ·exact .inl (hO.stab b o v (by rw [← (h.keep b hlt hf).2.2 o]; exact hv))
   ·exact .inl (hO.obj b hf).1
  ·exact .inr ⟨hge, hR'.lt_stab hv⟩
theorem OwnV.mind (hO : OwnV Sh V K σ w) (hR : R K σ w) (hR' : R K' σ' w) (h : Step K σ w K' σ' w) : OwnV Sh V K' σ' w := by
 have := hO.step hR' h
 have hn : ∀ b, Newer V w.heap.size w.heap.size b → V b := fun b hb => hb.elim id fun g => by omega
 exact ⟨fun b hb => ⟨hn b (this.obj b hb).1, (this.obj b hb).2⟩, fun b o v hv => hn b (this.stab b o v hv), fun g cs hg => hn g (this.lay g cs hg), this.sh⟩
/-! ### what a safe operation touches -/
noncomputable def poison (K : Kr) (σ : List AObj) (w : World) : World :=
 { w with heap := Array.ofFn fun (i : Fin w.heap.size) => open Classical in
   if ¬ Free K σ i then w.heap[i]
   else if (∃ o v, K.S i o = some v) ∨ (layV i).isSome then match w.heap[i] with
    | .cells c T _ => .cells c T (0, c.size)
    | _ => .cells #[] 0 (0, 0)
   else .cells #[] 0 (0, 0) }
theorem poison_size : (poison K σ w).heap.size = w.heap.size := by simp [poison]
theorem poison_at {b : Nat} (hb : b < w.heap.size) : (poison K σ w).heap[b]? = some (open Classical in
   if ¬ Free K σ b then w.heap[b]
   else if (∃ o v, K.S b o = some v) ∨ (layV b).isSome then match w.heap[b] with
    | .cells c T _ => .cells c T (0, c.size)
    | _ => .cells #[] 0 (0, 0)
   else .cells #[] 0 (0, 0)) := by
 simp only [poison]
 rw [Array.getElem?_eq_getElem (by simp; exact hb)]
 simp only [Array.getElem_ofFn]
 rfl
theorem poison_obj {b : Nat} (hb : b < w.heap.size) (hf : ¬ Free K σ b) : (poison K σ w).heap[b]? = w.heap[b]? := by
 rw [poison_at hb, if_pos hf, Array.getElem?_eq_getElem hb]
theorem poison_read {b : Nat} {c : Array Value} {T : TypeId} {fz : Nat × Nat} (hc : w.heap[b]? = some (.cells c T fz)) (hf : Free K σ b) (hr : (∃ o v, K.S b o = some v) ∨ (layV b).isSome) : (poison K σ w).heap[b]? = some (.cells c T (0, c.size)) := by
 obtain ⟨hb, h2⟩ := Array.getElem?_eq_some_iff.1 hc
 rw [poison_at hb, if_neg (by simpa using hf), if_pos hr, h2]
theorem poison_not {b : Nat} (hb : b < w.heap.size) (hf : Free K σ b) (hr : ¬ ((∃ o v, K.S b o = some v) ∨ (layV b).isSome)) : (poison K σ w).heap[b]? = some (.cells #[] 0 (0, 0)) := by
 rw [poison_at hb, if_neg (by simpa using hf), if_neg hr]
theorem cells_of_read (hR : R K σ w) {b : Nat} (hr : (∃ o v, K.S b o = some v) ∨ (layV b).isSome) : ∃ c T fz, w.heap[b]? = some (.cells c T fz) := by
 rcases hr with ⟨o, v, hv⟩ | hl
 ·have := hR.stab b o v hv
  unfold World.cell? at this
  split at this
  ·rename_i c e f hc; exact ⟨c, e, f, hc⟩
  ·cases this
 ·obtain ⟨cs, hg⟩ := Option.isSome_iff_exists.1 hl
  obtain ⟨⟨E, fz, h1⟩, _⟩ := hR.lay b cs hg
  exact ⟨_, _, _, h1⟩
theorem okObj_of_objR {n r : Nat} {o : AObj} {b : Nat} (h : ObjR K n w r o) (hb : ObjBlk K r o b) : ∃ ob, w.heap[b]? = some ob ∧ okObj ob = true := by
 cases o with
 | cells cs =>
  obtain ⟨cc, E, h1, _⟩ := h
  have : b = K.φ r := hb
  exact ⟨_, by rw [this]; exact h1, rfl⟩
 | tail m sz =>
  obtain ⟨a, cap, h1, h2, _, h3⟩ := h
  obtain ⟨a', cap', g1, g2, g3⟩ := hb
  rw [h1] at g1; simp only [Option.some.injEq, Prod.mk.injEq] at g1
  obtain ⟨rfl, rfl⟩ := g1
  obtain ⟨b', o, cc, E, k1, k2, _⟩ := h3 g2
  simp only [Option.some.injEq] at k1
  subst k1
  exact ⟨_, by rw [← g3]; exact k2, rfl⟩
 | map es =>
  obtain ⟨es', clock, h1, _⟩ := h
  have : b = K.φ r := hb
  exact ⟨_, by rw [this]; exact h1, rfl⟩
 | iter m c s =>
  obtain ⟨m', h1, _⟩ := h
  have : b = K.φ r := hb
  exact ⟨_, by rw [this]; exact h1, rfl⟩
 | siter s p =>
  have : b = K.φ r := hb
  exact ⟨_, by rw [this]; exact h, rfl⟩
 | loop st pend fn params assign body N fr =>
  obtain ⟨l, h1, _⟩ := h
  have : b = K.φ r := hb
  exact ⟨_, by rw [this]; exact h1, rfl⟩
 | vec sz xs =>
  obtain ⟨a, cap, h1, h2, _, _, h3⟩ := h
  obtain ⟨a', cap', g1, g2, g3⟩ := hb
  rw [h1] at g1; simp only [Option.some.injEq, Prod.mk.injEq] at g1
  obtain ⟨rfl, rfl⟩ := g1
  obtain ⟨b', o, cc, E, k1, k2, _⟩ := h3 g2
  simp only [Option.some.injEq] at k1
  subst k1
  exact ⟨_, by rw [← g3]; exact k2, rfl⟩
 | dead => exact hb.elim
theorem R.poison (hR : R K σ w) : R K σ (poison K σ w) := by
 refine hR.same (fun b o v hv => ?_) (fun b hb => poison_obj (hR.lt_obj hb) hb) (fun g cs hg => ?_)
 ·by_cases hf : Free K σ b
  ·obtain ⟨c, T, fz, hc⟩ := cells_of_read hR (.inl ⟨o, v, hv⟩)
   unfold World.cell?
   rw [poison_read hc hf (.inl ⟨o, v, hv⟩), hc]
  ·unfold World.cell?
   rw [poison_obj (hR.lt_stab hv) hf]
 ·obtain ⟨⟨E, fz, h1⟩, h2⟩ := hR.lay g cs hg
  exact ⟨_, _, poison_read h1 h2 (.inr (by rw [hg]; rfl))⟩
theorem pois_poison (hR : R K σ w) : Pois w.heap.size (fun b => ¬ Free K σ b) (fun b => (∃ o v, K.S b o = some v) ∨ (layV b).isSome) (poison K σ w) w := by
 refine ⟨poison_size, Nat.le_refl _, fun b hb => ?_, fun b hb => ?_, fun b o hbo => ?_, rfl, rfl, rfl⟩
 ·rw [Array.getElem?_eq_none (by rw [poison_size]; exact hb), Array.getElem?_eq_none hb]
 ·by_cases hf : Free K σ b
  ·by_cases hr : (∃ o v, K.S b o = some v) ∨ (layV b).isSome
   ·obtain ⟨c, T, fz, hc⟩ := cells_of_read hR hr
    exact .inr (.inl ⟨hr, c, T, fz, hc, poison_read hc hf hr⟩)
   ·exact .inr (.inr (poison_not hb hf hr))
  ·exact .inl ⟨hf, poison_obj hb hf⟩
 ·have hb : b < w.heap.size := by rw [← poison_size (K := K) (σ := σ)]; exact (Array.getElem?_eq_some_iff.1 hbo).1
  by_cases hf : Free K σ b
  ·by_cases hr : (∃ o v, K.S b o = some v) ∨ (layV b).isSome
   ·obtain ⟨c, T, fz, hc⟩ := cells_of_read hR hr
    rw [poison_read hc hf hr] at hbo
    simp only [Option.some.injEq] at hbo; subst hbo; rfl
   ·rw [poison_not hb hf hr] at hbo
    simp only [Option.some.injEq] at hbo; subst hbo; rfl
  ·have : ∃ r o', σ[r]? = some o' ∧ ObjBlk K r o' b := by
    apply Classical.byContradiction
    intro hn
    exact hf fun r o' h1 h2 => hn ⟨r, o', h1, h2⟩
   obtain ⟨r, o', h1, h2⟩ := this
   obtain ⟨ob, g1, g2⟩ := okObj_of_objR (hR.obj r o' h1) h2
   rw [poison_obj hb hf, g1] at hbo
   simp only [Option.some.injEq] at hbo; subst hbo; exact g2
theorem EvOK.weak {n t : Nat} {A A' B B' : Nat → Prop} {e : Event} (h : EvOK n A B t e) (hA : ∀ b, A b → A' b) (hB : ∀ b, B b → B' b) : EvOK n A' B' t e := by
 unfold EvOK at *
 split at h
 ·exact ⟨h.1, h.2.1, h.2.2.elim .inl fun h => .inr (h.elim (fun h => .inl (hA _ h)) fun h => .inr ⟨hB _ h.1, h.2⟩)⟩
 ·exact ⟨h.1, h.2.1, h.2.2.imp id (hA _)⟩
 ·exact h
 ·exact h
theorem gua_of {P : Program} {α : Type} {s : Sem α} {Φ : α → Prop} (hT : Tm P s Φ) (hR : R K σ w) (hO : OwnV Sh V K σ w) (hs : ∀ w₀, R K σ w₀ → ∃ x w₀', s.run P w₀ = .ok x w₀')
  {x : α} (hx : s.run P w = .ok x w') (hst : Step K σ w K' σ' w') {es : Array Event} (he : ∀ e ∈ es, e ∈ s.events P w #[]) : Gua Sh V w w' es := by
 obtain ⟨x₀, w₀', h₀⟩ := hs _ hR.poison
 obtain ⟨w2, g1, _, _, _, g5⟩ := hT.local (pois_poison hR) h₀
 rw [hx] at g1
 simp only [Result.ok.injEq] at g1
 obtain ⟨rfl, rfl⟩ := g1
 refine ⟨hst.size, fun b hb hv => ?_, hst.os, hst.tape, hst.output, hst.dr, fun e hm => ?_⟩
 ·have hf : Free K σ b := by
   apply Classical.byContradiction
   intro hn
   have := hO.obj b hn
   exact hv.elim (fun h => h this.1) (fun h => this.2 h)
  exact (hst.keep b hb hf).1
 ·rcases g5 #[] e (he e hm) with h | h
  ·simp at h
  ·refine h.weak (fun b hb => hO.obj b hb) (fun b hb => ?_)
   rcases hb with ⟨o, v, hv⟩ | hl
   ·exact hO.stab b o v hv
   ·obtain ⟨cs, hg⟩ := Option.isSome_iff_exists.1 hl
    exact hO.lay b cs hg
end Go.Mu
namespace Go.Mu
open Go Go.Conc
structure Callable (P : Program) (f : FuncId) : Prop where
 fn : ∃ fn, P.funcs[f]? = some fn ∧ (fn.name == "runtime.NumGoroutine") = false ∧ fn.body.isNone = false
theorem Callable.run {P : Program} {f : FuncId} (h : Callable P f) (args : Array Value) (w : World) : (callFunc f args).run P w = .ok (.enter f args) w := by
 obtain ⟨fn, h1, h2, h3⟩ := h.fn
 have h2' : ¬ fn.name = "runtime.NumGoroutine" := by simpa using h2
 have h3' : ¬ fn.body = none := fun e => by rw [e] at h3; cases h3
 simp [callFunc, program, Sem.run, h1, h2', h3']
theorem Callable.tm {P : Program} {f : FuncId} (h : Callable P f) (args : Array Value) : Tm P (callFunc f args) Any := by
 obtain ⟨fn, h1, h2, h3⟩ := h.fn
 unfold callFunc
 refine Tm_bind (Tm_program ?_)
 simp only [h1, h2, h3, Bool.false_eq_true, if_false]
 trivial
structure LeavesAt {P : Program} (M : RMode P) (V : Nat → Prop) (fr : Frame) (w : World) (X : Value → Prop) : Prop where
 mode : fr.mode = .returning
 defers : fr.defers = []
 fn : ∃ fn, P.funcs[fr.fn]? = some fn ∧ ∀ w₁, Rel V w w₁ → ∃ v, (results fn fr.tmps).run P w₁ = .ok v w₁ ∧ X v ∧ ∀ e ∈ (results fn fr.tmps).events P w₁ #[], EvOK w₁.heap.size (fun b => V b ∧ ¬ M.Sh b) V w₁.heap.size e
theorem LeavesAt.mono {P : Program} {M : RMode P} {V : Nat → Prop} {fr : Frame} {w : World} {X Y : Value → Prop} (h : LeavesAt M V fr w X) (hx : ∀ v, X v → Y v) : LeavesAt M V fr w Y :=
 ⟨h.mode, h.defers, let ⟨fn, h1, h2⟩ := h.fn; ⟨fn, h1, fun w₁ hr => let ⟨v, h3, h4, h5⟩ := h2 w₁ hr; ⟨v, h3, hx v h4, h5⟩⟩⟩
def ACallsM {P : Program} (M : RMode P) (f : FuncId) (args : List AV) (σ : List AObj) (Q : AV → List AObj → Prop) : Prop :=
 ∀ (K : Kr) (w : World) (V : Nat → Prop) (cargs : Array Value) (kd : CallKind) (cs : List Frame), R K σ w → OwnV M.Sh V K σ w → VRs K σ.length args cargs.toList →
  M.J (G (Frame.enter P f cargs kd) cs) w V fun g' w' V' => ∃ fr v σ' K', g' = G fr cs ∧ fr.fn = f ∧ fr.kind = kd ∧ LeavesAt M V' fr w' (VR K' σ'.length v) ∧ Q v σ' ∧ R K' σ' w' ∧ OwnV M.Sh V' K' σ' w' ∧ StepV V K σ w V' K' σ' w'
def ACalls {P : Program} (S : MC P) (f : FuncId) (args : List AV) (σ : List AObj) (Q : AV → List AObj → Prop) : Prop :=
 Callable P f ∧ ∀ M, S M → ACallsM M f args σ Q
theorem ACallsM.mono {P : Program} {M : RMode P} {f : FuncId} {args : List AV} {σ : List AObj} {Q Q' : AV → List AObj → Prop} (h : ACallsM M f args σ Q) (hq : ∀ v σ', Q v σ' → Q' v σ') : ACallsM M f args σ Q' :=
 fun K w V cargs kd cs hR hO hA => M.bind (h K w V cargs kd cs hR hO hA) fun g' w' V' ⟨fr, v, σ', K', h1, h2, h3, h4, h5, h6⟩ => M.ret ⟨fr, v, σ', K', h1, h2, h3, h4, hq _ _ h5, h6⟩
theorem ACalls.mono {P : Program} {S : MC P} {f : FuncId} {args : List AV} {σ : List AObj} {Q Q' : AV → List AObj → Prop} (h : ACalls S f args σ Q) (hq : ∀ v σ', Q v σ' → Q' v σ') : ACalls S f args σ Q' :=
 ⟨h.1, fun M hM => (h.2 M hM).mono hq⟩
def PureV {P : Program} (S : MC P) (f : FuncId) (args : List AV) (v : AV) : Prop := ∀ (σ : List AObj) (Q : AV → List AObj → Prop), Q v σ → ACalls S f args σ Q
structure Env where
 P : Program
 S : MC P
 ty : Nat → TI
 N : Nat
 mt : TypeId → String → Option FuncId
 ord : Nat → List Nat × List (Nat × List Nat)
 fs : FuncId → List AV → Option AV := fun _ _ => none
structure EnvOK (E : Env) : Prop where
 ty : TysOK E.P E.ty
 eq : EqsOK E.P E.ty
 mt : ∀ t s f, E.mt t s = some f → ∀ c w, (method (E.P.types.size + Made.depth) t c s).run E.P w = .ok (f, c) w
 mtT : ∀ t s f, E.mt t s = some f → ∀ c, Tm E.P (method (E.P.types.size + Made.depth) t c s) fun r => r.1 = f
 mixed : E.P.follows .mixedOrders = true
 fs : ∀ f as v, E.fs f as = some v → PureV E.S f as v
def mark (r : Nat) : Deferred := { target := .collected r, args := #[] }
structure Marks (Sh V : Nat → Prop) (K : Kr) (σ : List AObj) (w : World) (B : Nat) (ms : List Nat) : Prop where
 nodup : ms.Nodup
 lo : ∀ r ∈ ms, B ≤ r
 heap : ∀ r ∈ ms, w.heap[r]? = some (.deferred (some []))
 free : ∀ r ∈ ms, Free K σ r
 own : ∀ r ∈ ms, V r ∧ ¬ Sh r
inductive Leaves : List Item → Option Code → Prop
 | nil : Leaves [] none
 | ret (k : List Item) : Leaves (.code .ret :: k) (some .ret)
 | exit (id : Nat) (k : List Item) (h : exitTo id k = none) : Leaves (.code (.exit id) :: k) (some (.exit id))
def RoOK (ro : Option Nat) (K : Kr) (n : Nat) (b : Frame) : Prop := match ro with
 | none => b.roundOf = none
 | some r => r < n ∧ b.roundOf = some (K.φ r) ∧ b.kind = .normal
theorem RoOK.mono {ro : Option Nat} {K K' : Kr} {n n' : Nat} {b : Frame} (h : RoOK ro K n b) (he : Ext n K K') (hn : n ≤ n') : RoOK ro K' n' b := by
 cases ro with
 | none => exact h
 | some r => exact ⟨by have := h.1; omega, by rw [he.φ r h.1]; exact h.2.1, h.2.2⟩
def RunEnd {P : Program} (M : RMode P) (N : Nat) (Q : Option Code → Fr → List AObj → Prop) (K : Kr) (σ : List AObj) (w : World) (V : Nat → Prop) (ds : List Deferred) (b : Frame) (cs : List Frame) (g' : Goroutine) (w' : World) (V' : Nat → Prop) : Prop :=
 ∃ K' σ' fr' a' todo' j ms, g' = G (b.atR a' todo') cs ∧ Leaves todo' j ∧ Q j fr' σ' ∧ R K' σ' w' ∧ OwnV M.Sh V' K' σ' w' ∧ FR K' σ'.length N fr' a'.tmps ∧ StepV V K σ w V' K' σ' w' ∧
  a'.defers = ms.map mark ++ ds ∧ Marks M.Sh V' K' σ' w' w.heap.size ms
theorem RunEnd.before {P : Program} {M : RMode P} {N : Nat} {Q : Option Code → Fr → List AObj → Prop} {K K1 : Kr} {σ σ1 : List AObj} {w w1 : World} {V V1 : Nat → Prop} {ds : List Deferred} {b : Frame} {cs : List Frame} {g' : Goroutine} {w' : World} {V' : Nat → Prop}
  (h : RunEnd M N Q K1 σ1 w1 V1 ds b cs g' w' V') (hs : StepV V K σ w V1 K1 σ1 w1) : RunEnd M N Q K σ w V ds b cs g' w' V' :=
 let ⟨K', σ', fr', a', todo', j, ms, h1, h2, h3, h4, h5, h6, h7, h8, h9⟩ := h
 ⟨K', σ', fr', a', todo', j, ms, h1, h2, h3, h4, h5, h6, hs.trans h7, h8, h9.nodup, fun r hr => Nat.le_trans hs.size (h9.lo r hr), h9.heap, h9.free, h9.own⟩
def ARunM (E : Env) (M : RMode E.P) (ro : Option Nat) (todo : List Item) (fr : Fr) (σ : List AObj) (Q : Option Code → Fr → List AObj → Prop) : Prop :=
 ∀ (K : Kr) (w : World) (V : Nat → Prop) (a : Act) (b : Frame) (cs : List Frame), RoOK ro K σ.length b → R K σ w → OwnV M.Sh V K σ w → FR K σ.length E.N fr a.tmps →
  M.J (G (b.atR a todo) cs) w V (RunEnd M E.N Q K σ w V a.defers b cs)
def ARun (E : Env) (ro : Option Nat) (todo : List Item) (fr : Fr) (σ : List AObj) (Q : Option Code → Fr → List AObj → Prop) : Prop := ∀ M, E.S M → ARunM E M ro todo fr σ Q
theorem ARun.mono {E : Env} {ro : Option Nat} {todo : List Item} {fr : Fr} {σ : List AObj} {Q Q' : Option Code → Fr → List AObj → Prop} (h : ARun E ro todo fr σ Q) (hq : ∀ j fr σ, Q j fr σ → Q' j fr σ) : ARun E ro todo fr σ Q' :=
 fun M hM K w V a b cs hb hR hO hF => M.bind (h M hM K w V a b cs hb hR hO hF) fun g' w' V' ⟨K', σ', fr', a', todo', j, ms, h1, h2, h3, h4⟩ => M.ret ⟨K', σ', fr', a', todo', j, ms, h1, h2, hq _ _ _ h3, h4⟩
variable {E : Env} {ro : Option Nat} {k : List Item} {fr : Fr} {σ : List AObj} {Q : Option Code → Fr → List AObj → Prop}
theorem Marks.nil {Sh V : Nat → Prop} {K : Kr} {w : World} {B : Nat} : Marks Sh V K σ w B [] := ⟨List.nodup_nil, by simp, by simp, by simp, by simp⟩
theorem ARun.go {M : RMode E.P} {todo : List Item} (h : ARunM E M ro todo fr σ Q) {K K0 : Kr} {w w0 : World} {V V0 : Nat → Prop} {σ0 : List AObj} {a : Act} {b : Frame} {cs : List Frame} {ds : List Deferred} (hb : RoOK ro K σ.length b) (hR : R K σ w) (hO : OwnV M.Sh V K σ w) (hF : FR K σ.length E.N fr a.tmps)
  (hs : StepV V0 K0 σ0 w0 V K σ w) (hd : a.defers = ds) : M.J (G (b.atR a todo) cs) w V (RunEnd M E.N Q K0 σ0 w0 V0 ds b cs) := by
 subst hd
 exact M.bind (h K w V a b cs hb hR hO hF) fun g' w' V' h' => M.ret (h'.before hs)
theorem ARun.step {todo todo' : List Item} (h : ARun E ro todo' fr σ Q)
  (hs : ∀ (a : Act) (b : Frame) (cs : List Frame) (w : World) K (main : Bool), RoOK ro K σ.length b → R K σ w → FR K σ.length E.N fr a.tmps → stepG E.P main (G (b.atR a todo) cs) w = .go (G (b.atR a todo') cs) w) : ARun E ro todo fr σ Q := by
 intro M hM K w V a b cs hb hR hO hF
 refine M.step rfl fun w₁ hr => ⟨_, _, _, hs a b cs w₁ K M.main hb (hR.rely hO hr) hF, .idle _ _ _, ?_⟩
 have hn : Newer V w₁.heap.size w₁.heap.size = V := by
  funext b; apply propext
  exact ⟨fun h => h.elim id fun g => by omega, .inl⟩
 rw [hn]
 exact ARun.go (h M hM) hb (hR.rely hO hr) (hO.rely hr) hF (.of_rel hr) rfl
theorem ARun.leave {todo : List Item} {j : Option Code} (hl : Leaves todo j) (h : Q j fr σ) : ARun E ro todo fr σ Q :=
 fun M hM K w V a b cs _ hR hO hF => M.ret ⟨K, σ, fr, a, todo, j, [], rfl, hl, h, hR, hO, hF, .refl _ _ _ _, rfl, .nil⟩
theorem ARun.skip (h : ARun E ro k fr σ Q) : ARun E ro (.code .skip :: k) fr σ Q := h.step fun _ _ _ _ _ _ _ _ _ => by simp [G, stepG, stepG.exec, Frame.atR]
theorem ARun.label {l : Nat} (h : ARun E ro k fr σ Q) : ARun E ro (.code (.label l) :: k) fr σ Q := h.step fun _ _ _ _ _ _ _ _ _ => by simp [G, stepG, stepG.exec, Frame.atR]
theorem ARun.inBlock {l : Nat} (h : ARun E ro k fr σ Q) : ARun E ro (.inBlock l :: k) fr σ Q := h.step fun _ _ _ _ _ _ _ _ _ => by simp [G, stepG, stepG.exec, Frame.atR]
theorem ARun.seq {x y : Code} (h : ARun E ro (.code x :: .code y :: k) fr σ Q) : ARun E ro (.code (.seq x y) :: k) fr σ Q := h.step fun _ _ _ _ _ _ _ _ _ => by simp [G, stepG, stepG.exec, Frame.atR]
theorem ARun.block {id : Nat} {c : Code} (h : ARun E ro (.code c :: .inBlock id :: k) fr σ Q) : ARun E ro (.code (.block id c) :: k) fr σ Q := h.step fun _ _ _ _ _ _ _ _ _ => by simp [G, stepG, stepG.exec, Frame.atR]
theorem ARun.loop {c : Code} (h : ARun E ro (.code c :: .inLoop c :: k) fr σ Q) : ARun E ro (.code (.loop c) :: k) fr σ Q := h.step fun _ _ _ _ _ _ _ _ _ => by simp [G, stepG, stepG.exec, Frame.atR]
theorem ARun.inLoop {c : Code} (h : ARun E ro (.code c :: .inLoop c :: k) fr σ Q) : ARun E ro (.inLoop c :: k) fr σ Q := h.step fun _ _ _ _ _ _ _ _ _ => by simp [G, stepG, stepG.exec, Frame.atR]
theorem ARun.exit {id : Nat} {k' : List Item} (hk : exitTo id k = some k') (h : ARun E ro k' fr σ Q) : ARun E ro (.code (.exit id) :: k) fr σ Q := h.step fun _ _ _ _ _ _ _ _ _ => by simp [G, stepG, stepG.exec, Frame.atR, hk]
theorem ARun.goto {id : Nat} {k' : List Item} (hk : gotoIn id k = some k') (h : ARun E ro k' fr σ Q) : ARun E ro (.code (.goto id) :: k) fr σ Q := h.step fun _ _ _ _ _ _ _ _ _ => by simp [G, stepG, stepG.exec, Frame.atR, hk]
theorem ARun.scope {c : Code} (h : ARun E ro (.code c :: .inScope c :: k) fr σ Q) : ARun E ro (.code (.scope c) :: k) fr σ Q := h.step fun _ _ _ _ _ _ _ _ _ => by simp [G, stepG, stepG.exec, Frame.atR]
theorem ARun.inScope {c : Code} (h : ARun E ro k fr σ Q) : ARun E ro (.inScope c :: k) fr σ Q := h.step fun _ _ _ _ _ _ _ _ _ => by simp [G, stepG, stepG.exec, Frame.atR]
theorem ARun.cond {c : Operand} {x y : Code} {t : Bool} (hc : aeval fr c = some (.bool t)) (h : ARun E ro (.code (if t then x else y) :: k) fr σ Q) : ARun E ro (.code (.cond c x y) :: k) fr σ Q :=
 h.step fun a b _ _ _ _ _ _ hF => by
  have hv := (aeval_sound hF hc).bool_inv
  have := congrFun (Frame.eval_atR b a (.code (.cond c x y) :: k)) c
  simp only [Frame.atR] at this
  simp [G, stepG, stepG.exec, Frame.atR, this, hv]
def wantA (ds : List Oper) (fr : Fr) : Option (Nat × Bool) → Option Bool
 | none => some true
 | some (j, want) => match (ds[j]?).bind (·.dst) with
  | none => none
  | some d => match fr.get d with
   | some (.bool b) => some (b == want)
   | some (.tup []) => some false
   | _ => none
theorem wantA_sound {K : Kr} {n : Nat} {ops : Array Oper} {a : Act} {o : Oper} {b : Bool} (hF : FR K n E.N fr a.tmps) (h : wantA ops.toList fr o.guard = some b) : Region.wanted o (yielded ops a.tmps) = b := by
 unfold Region.wanted
 cases hg : o.guard with
 | none => rw [hg] at h; simp [wantA] at h; simpa using h
 | some gw =>
  obtain ⟨j, want⟩ := gw
  rw [hg] at h
  simp only [wantA] at h
  cases hd : (ops.toList[j]?).bind (·.dst) with
  | none => rw [hd] at h; cases h
  | some d =>
   rw [hd] at h
   simp only at h
   have hd' : (ops[j]?).bind (·.dst) = some d := by simpa using hd
   split at h
   ·rename_i q hq
    obtain ⟨c, h1, h2⟩ := hF.2 d _ hq
    have := h2.bool_inv; subst this
    simp only [yielded, hd', Option.bind_some, h1]
    simpa using h
   ·rename_i hq
    obtain ⟨c, h1, h2⟩ := hF.2 d _ hq
    obtain ⟨cc, rfl, _⟩ := h2.tup_inv
    simp only [yielded, hd', Option.bind_some, h1]
    simpa using h
   ·cases h
end Go.Mu
