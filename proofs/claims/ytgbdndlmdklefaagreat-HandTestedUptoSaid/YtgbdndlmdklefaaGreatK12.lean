/- Part Z of the abstract layer: functions that compute alone, loops that count. -/
import Derived.Test.YtgbdndlmdklefaaGreatK11
import Derived.Laws.BitsLemmas
set_option linter.unusedSimpArgs false
set_option linter.unusedVariables false
namespace Go.Mu
open Go Go.Conc

/-- Values that name no object. -/
def Plain (v : AV) : Prop := ∀ n, Lt n v
theorem Plain.int {k : IntKind} {i : Int} : Plain (.int k i) := fun _ => .int _ _
theorem Plain.bool {b : Bool} : Plain (.bool b) := fun _ => .bool _
theorem Plain.agg {cs : List AV} (h : ∀ c ∈ cs, Plain c) : Plain (.agg cs) := fun n => .agg _ fun i hi => h _ (List.getElem_mem hi) n
theorem Plain.tup {cs : List AV} (h : ∀ c ∈ cs, Plain c) : Plain (.tup cs) := fun n => .tup _ fun i hi => h _ (List.getElem_mem hi) n
theorem Plain.iface {t : TypeId} {v : AV} (h : Plain v) : Plain (.iface t v) := fun n => .iface _ _ (h n)
theorem Plain.list {sz : Nat} {xs : List AV} (h : ∀ x ∈ xs, Plain (.agg x.cells)) : Plain (.list .no sz xs) := fun n => .list _ _ _ (fun id e => by cases e) fun i j hi hj => by
  cases h _ (List.getElem_mem hi) n with
  | agg _ h => exact h j hj
theorem Plain.map {α : Type} {sz : Nat} {f : α → AV} {xs : List α} (h : ∀ x ∈ xs, Plain (.agg (f x).cells)) : Plain (.list .no sz (xs.map f)) := .list fun y hy => by
  obtain ⟨x, hx, rfl⟩ := List.mem_map.1 hy; exact h x hx
theorem Plain.cells_int {k : IntKind} {i : Int} : Plain (.agg (AV.int k i).cells) := .agg (by simp [AV.cells]; exact .int)
theorem Plain.cells_list {sz : Nat} {xs : List AV} (h : Plain (.list .no sz xs)) : Plain (.agg (AV.list .no sz xs).cells) := .agg (by simp [AV.cells]; exact h)
theorem Plain.ints {xs : List Int} : Plain (ints .no xs) := .map fun x _ => .cells_int

/-- Less is known of a value: leaf, aggregate, tuple. -/
def wk0 : AV → AV → Prop
  | .list t sz xs, .list t' sz' ys => xs = ys ∧ (sz = sz' ∨ ys = []) ∧ (t' = .no ∨ t = t')
  | v, w => v = w
def wkL (f : AV → AV → Prop) : List AV → List AV → Prop
  | [], [] => True
  | a :: as, b :: bs => f a b ∧ wkL f as bs
  | _, _ => False
def wk1 : AV → AV → Prop
  | .agg cs, .agg ds => wkL wk0 cs ds
  | v, w => wk0 v w
def wk : AV → AV → Prop
  | .tup cs, .tup ds => wkL wk1 cs ds
  | v, w => wk1 v w

theorem wk0_weak {v w : AV} (h : wk0 v w) : Weak v w := by
  unfold wk0 at h
  split at h
  · rename_i t sz xs t' sz' ys
    obtain ⟨rfl, h1, h2⟩ := h
    intro K n c hv
    cases hv with
    | list _ _ _ a cap f hl ht ha hs h1' h =>
      have ht' : TokR K n t' xs.length a cap := by
        rcases h2 with rfl | rfl
        · trivial
        · exact ht
      rcases h1 with rfl | rfl
      · exact .list t' sz xs a cap f hl ht' ha hs h1' h
      · exact .list t' sz' [] a cap f hl ht' (fun h => absurd rfl h) (fun i hi => by simp at hi) (fun i j hi => by simp at hi) (fun i j hi => by simp at hi)
  · subst h; exact Weak.refl _
theorem wkL_len {f : AV → AV → Prop} : ∀ {cs ds : List AV}, wkL f cs ds → cs.length = ds.length ∧ ∀ i (h : i < cs.length) (h' : i < ds.length), f cs[i] ds[i]
  | [], [], _ => ⟨rfl, fun i h => by simp at h⟩
  | a :: as, b :: bs, h => by
    obtain ⟨h1, h2⟩ := h
    obtain ⟨g1, g2⟩ := wkL_len h2
    refine ⟨by simp [g1], fun i a b => ?_⟩
    cases i with
    | zero => exact h1
    | succ i => exact g2 i (by simpa using a) (by simpa using b)
  | [], _ :: _, h => h.elim
  | _ :: _, [], h => h.elim
theorem wk1_weak {v w : AV} (h : wk1 v w) : Weak v w := by
  unfold wk1 at h
  split at h
  · obtain ⟨g1, g2⟩ := wkL_len h
    exact Weak.agg g1 fun i a b => wk0_weak (g2 i a b)
  · exact wk0_weak h
theorem wk_weak {v w : AV} (h : wk v w) : Weak v w := by
  unfold wk at h
  split at h
  · obtain ⟨g1, g2⟩ := wkL_len h
    exact Weak.tup g1 fun i a b => wk1_weak (g2 i a b)
  · exact wk1_weak h

/-- What a function that computes alone leaves. -/
def Gives (σ : List AObj) (v : AV) : AV → List AObj → Prop := fun v' σ' => (∃ junk, σ' = σ ++ junk) ∧ wk v' v
theorem post_app {σ l : List AObj} {v v' : AV} : Gives σ v v' (σ ++ l) = wk v' v := by
  unfold Gives; exact propext ⟨fun h => h.2, fun h => ⟨⟨_, rfl⟩, h⟩⟩
theorem post_nil {σ : List AObj} {v v' : AV} : Gives σ v v' σ = wk v' v := by
  unfold Gives; exact propext ⟨fun h => h.2, fun h => ⟨⟨[], by simp⟩, h⟩⟩
@[congr] theorem Gives_congr {σ : List AObj} {v a a' : AV} {s s' : List AObj} (h1 : a = a') (h2 : s = s') : Gives σ v a s = Gives σ v a' s' := by rw [h1, h2]
@[congr] theorem wk_congr {a a' b : AV} (h1 : a = a') : wk a b = wk a' b := by rw [h1]
theorem wk_tup {cs ds : List AV} : wk (.tup cs) (.tup ds) = wkL wk1 cs ds := rfl
theorem wk_agg {cs ds : List AV} : wk (.agg cs) (.agg ds) = wkL wk0 cs ds := rfl
theorem wk_int {k k' : IntKind} {i j : Int} : wk (.int k i) (.int k' j) = (AV.int k i = .int k' j) := rfl
theorem wk_bool {i j : Bool} : wk (.bool i) (.bool j) = (AV.bool i = .bool j) := rfl
theorem wk_str {i j : ByteArray} : wk (.str i) (.str j) = (AV.str i = .str j) := rfl
theorem wk_iface {t t' : TypeId} {i j : AV} : wk (.iface t i) (.iface t' j) = (AV.iface t i = .iface t' j) := rfl
theorem wk_list {t t' : Tok} {sz sz' : Nat} {xs ys : List AV} : wk (.list t sz xs) (.list t' sz' ys) = (xs = ys ∧ (sz = sz' ∨ ys = []) ∧ (t' = .no ∨ t = t')) := rfl
theorem wk1_agg {cs ds : List AV} : wk1 (.agg cs) (.agg ds) = wkL wk0 cs ds := rfl
theorem wk1_int {k k' : IntKind} {i j : Int} : wk1 (.int k i) (.int k' j) = (AV.int k i = .int k' j) := rfl
theorem wk1_bool {i j : Bool} : wk1 (.bool i) (.bool j) = (AV.bool i = .bool j) := rfl
theorem wk1_str {i j : ByteArray} : wk1 (.str i) (.str j) = (AV.str i = .str j) := rfl
theorem wk1_list {t t' : Tok} {sz sz' : Nat} {xs ys : List AV} : wk1 (.list t sz xs) (.list t' sz' ys) = (xs = ys ∧ (sz = sz' ∨ ys = []) ∧ (t' = .no ∨ t = t')) := rfl
theorem wk0_int {k k' : IntKind} {i j : Int} : wk0 (.int k i) (.int k' j) = (AV.int k i = .int k' j) := rfl
theorem wk0_bool {i j : Bool} : wk0 (.bool i) (.bool j) = (AV.bool i = .bool j) := rfl
theorem wk0_str {i j : ByteArray} : wk0 (.str i) (.str j) = (AV.str i = .str j) := rfl
theorem wk0_list {t t' : Tok} {sz sz' : Nat} {xs ys : List AV} : wk0 (.list t sz xs) (.list t' sz' ys) = (xs = ys ∧ (sz = sz' ∨ ys = []) ∧ (t' = .no ∨ t = t')) := rfl
theorem wkL_nil {f : AV → AV → Prop} : wkL f [] [] = True := rfl
theorem wkL_cons {f : AV → AV → Prop} {a b : AV} {as bs : List AV} : wkL f (a :: as) (b :: bs) = (f a b ∧ wkL f as bs) := rfl
theorem PureV.of_ev {E : Env} (hE : EnvOK E) {f : FuncId} {fn : Func} {c : Code} {args : List AV} {v : AV} (hp : Plain v) (kp : Nat → Bool) (hf : E.P.funcs[f]? = some fn) (hb : fn.body = some c) (hN : fn.ntmps = E.N) (hA : args.length ≤ E.N)
    (hC : Callable E.P f) (hO : todoOK E [.code c] = true)
    (h : ∀ σ, ev E none 100000 [.code c] ⟨kp, [], number 0 args⟩ σ (retPost E fn.results.toList (Gives σ v))) : PureV E.S f args v := by
  intro σ Q hq
  refine ACalls.clean ((ACalls.of_ev hE kp hf hb hN hA hC hO (h σ)).mono fun v' σ' ⟨⟨junk, h1⟩, h2⟩ => ⟨v, junk, h1, wk_weak h2, hp _, hq⟩)

/-- A call that returns a value of a kind, and leaves the objects as they were. -/
theorem ACalls.clean_ev {E : Env} (hE : EnvOK E) {f : FuncId} {fn : Func} {c : Code} {args : List AV} {σ : List AObj} {v : AV} (hp : Lt σ.length v) {Q : AV → List AObj → Prop} (hq : Q v σ) (kp : Nat → Bool) (hf : E.P.funcs[f]? = some fn) (hb : fn.body = some c) (hN : fn.ntmps = E.N) (hA : args.length ≤ E.N)
    (hC : Callable E.P f) (hO : todoOK E [.code c] = true)
    (h : ev E none 100000 [.code c] ⟨kp, [], number 0 args⟩ σ (retPost E fn.results.toList (Gives σ v))) : ACalls E.S f args σ Q :=
  ACalls.clean ((ACalls.of_ev hE kp hf hb hN hA hC hO h).mono fun v' σ' ⟨⟨junk, h1⟩, h2⟩ => ⟨v, junk, h1, wk_weak h2, hp, hq⟩)

section
variable {σ : List AObj} {X : AV → List AObj → Prop}
theorem callO_give {P : Program} {S : MC P} {g : FuncId} {as : List AV} {v : AV} : callO S g as σ X (some v) = giveB X σ (some v) := by rw [giveB_eq]; rfl
theorem giveB_agg {cs : List AV} : giveB X σ (some (.agg cs)) = X (.agg cs) σ := rfl
theorem giveB_tup {cs : List AV} : giveB X σ (some (.tup cs)) = X (.tup cs) σ := rfl
theorem giveB_list {t : Tok} {sz : Nat} {cs : List AV} : giveB X σ (some (.list t sz cs)) = X (.list t sz cs) σ := rfl
theorem giveB_iface {t : TypeId} {v : AV} : giveB X σ (some (.iface t v)) = X (.iface t v) σ := rfl
theorem giveB_fn {f : Fn} {p q : List AV} : giveB X σ (some (.fn f p q)) = X (.fn f p q) σ := rfl
end

/-- Ways part. -/
def evIf (E : Env) (ro : Option Nat) (n : Nat) (k : List Item) (Q : Post) (fr : Fr) (σ : List AObj) (x y : Code) (c : Option AV) : Prop := match c with
  | some (.bool t) => (t = true → ev E ro n (.code x :: k) fr σ Q) ∧ (t = false → ev E ro n (.code y :: k) fr σ Q)
  | _ => False
section
variable {E : Env} {ro : Option Nat} {n : Nat} {k : List Item} {Q : Post} {fr : Fr} {σ : List AObj} {x y : Code}
theorem evIf_true : evIf E ro n k Q fr σ x y (some (.bool true)) = ev E ro n (.code x :: k) fr σ Q := by simp [evIf]
theorem evIf_false : evIf E ro n k Q fr σ x y (some (.bool false)) = ev E ro n (.code y :: k) fr σ Q := by simp [evIf]
theorem ev_condI {c : Operand} : ev E ro (n + 1) (.code (.cond c x y) :: k) fr σ Q = evIf E ro n k Q fr σ x y (aeval fr c) := by
  rw [ev_cond]; unfold evIf; rfl
end
section
variable {E : Env} {ro : Option Nat} {σ : List AObj} {X : AV → List AObj → Prop}
def exO (A : Prop) (f : List Item → Prop) : Option (List Item) → Prop
  | some k => f k
  | none => A
@[congr] theorem exO_congr {A : Prop} {f : List Item → Prop} {v v' : Option (List Item)} (h : v = v') : exO A f v = exO A f v' := by rw [h]
theorem exO_some {A : Prop} {f : List Item → Prop} {k : List Item} : exO A f (some k) = f k := rfl
theorem exO_none {A : Prop} {f : List Item → Prop} : exO A f none = A := rfl
theorem ev_exitI {n : Nat} {k : List Item} {fr : Fr} {Q : Post} {id : Nat} : ev E ro (n + 1) (.code (.exit id) :: k) fr σ Q = exO (Q (some (.exit id)) fr σ) (fun k' => ev E ro n k' fr σ Q) (exitTo id k) := by
  rw [ev_exit]; cases exitTo id k <;> rfl
theorem ev_rangeI {n : Nat} {k : List Item} {fr : Fr} {Q : Post} {f : Operand} {p : Array Tmp} {x y : Code} : ev E ro (n + 1) (.code (.rangeFunc f p x y) :: k) fr σ Q = ARun E ro (.code (.rangeFunc f p x y) :: k) fr.anew σ Q := rfl
theorem ev_beginI {n : Nat} {k : List Item} {fr : Fr} {Q : Post} : ev E ro (n + 1) (.beginRound :: k) fr σ Q = ARun E ro (.beginRound :: k) fr.anew σ Q := rfl
def giveC (X : AV → List AObj → Prop) (σ : List AObj) (b : Bool) : Prop := (b = true → X (.bool true) σ) ∧ (b = false → X (.bool false) σ)
@[congr] theorem giveC_congr {b b' : Bool} (h : b = b') : giveC X σ b = giveC X σ b' := by rw [h]
theorem giveB_giveC {b : Bool} : giveB X σ (some (.bool b)) = giveC X σ b := rfl
theorem giveC_true : giveC X σ true = X (.bool true) σ := by simp [giveC]
theorem giveC_false : giveC X σ false = X (.bool false) σ := by simp [giveC]
theorem giveC_decide {p : Prop} [Decidable p] : giveC X σ (decide p) = ((p → X (.bool true) σ) ∧ (¬ p → X (.bool false) σ)) := by simp [giveC]
theorem giveC_beq {a b : Int} : giveC X σ (a == b) = giveC X σ (decide (a = b)) := by
  have : (a == b) = decide (a = b) := by rw [Bool.eq_iff_iff]; simp
  rw [this]
theorem giveC_bne {a b : Int} : giveC X σ (a != b) = giveC X σ (!decide (a = b)) := by
  have : (a != b) = !decide (a = b) := by rw [Bool.eq_iff_iff]; simp
  rw [this]
theorem giveC_ndecide {p : Prop} [Decidable p] : giveC X σ (!decide p) = ((¬ p → X (.bool true) σ) ∧ (p → X (.bool false) σ)) := by simp [giveC]
theorem giveC_list {α : Type} [BEq α] [LawfulBEq α] {a b : List α} : giveC X σ (a == b) = ((a = b → X (.bool true) σ) ∧ (¬ a = b → X (.bool false) σ)) := by
  unfold giveC
  have h2 : ((a == b) = false) = ¬ a = b := by rw [← Bool.not_eq_true, beq_iff_eq]
  rw [h2]; simp
def guardA (E : Env) (all os : List Oper) (dst : Option Tmp) (fr : Fr) (Q : Fr → List AObj → Prop) (σ : List AObj) (type : TypeId) (op : Op) (want : Bool) (v : Option AV) : Prop := match v with
  | some (.bool b) => (b = want → evOp E fr σ type op (evNext E all os dst fr Q)) ∧ (b = !want → evNext E all os dst fr Q (.tup []) σ)
  | some (.tup []) => evNext E all os dst fr Q (.tup []) σ
  | _ => False
def guardB (E : Env) (all : List Oper) (rs : List Nat) (L : List (Nat × List Nat)) (dst : Option Tmp) (fr : Fr) (Q : Fr → List AObj → Prop) (σ : List AObj) (type : TypeId) (op : Op) (want : Bool) (v : Option AV) : Prop := match v with
  | some (.bool b) => (b = want → evOp E fr σ type op (evNextD E all rs L dst fr Q)) ∧ (b = !want → evNextD E all rs L dst fr Q (.tup []) σ)
  | some (.tup []) => evNextD E all rs L dst fr Q (.tup []) σ
  | _ => False
def getO (fr : Fr) : Option Tmp → Option AV
  | some d => fr.get d
  | none => none
theorem getO_some {fr : Fr} {d : Tmp} : getO fr (some d) = fr.get d := rfl
section
variable {all os : List Oper} {dst : Option Tmp} {fr : Fr} {Q : Fr → List AObj → Prop} {type : TypeId} {op : Op} {rs : List Nat} {L : List (Nat × List Nat)} {want : Bool}
theorem guardA_tt : guardA E all os dst fr Q σ type op true (some (.bool true)) = evOp E fr σ type op (evNext E all os dst fr Q) := by simp [guardA]
theorem guardA_ff : guardA E all os dst fr Q σ type op false (some (.bool false)) = evOp E fr σ type op (evNext E all os dst fr Q) := by simp [guardA]
theorem guardA_tf : guardA E all os dst fr Q σ type op false (some (.bool true)) = evNext E all os dst fr Q (.tup []) σ := by simp [guardA]
theorem guardA_ft : guardA E all os dst fr Q σ type op true (some (.bool false)) = evNext E all os dst fr Q (.tup []) σ := by simp [guardA]
theorem guardB_tt : guardB E all rs L dst fr Q σ type op true (some (.bool true)) = evOp E fr σ type op (evNextD E all rs L dst fr Q) := by simp [guardB]
theorem guardB_ff : guardB E all rs L dst fr Q σ type op false (some (.bool false)) = evOp E fr σ type op (evNextD E all rs L dst fr Q) := by simp [guardB]
theorem guardB_ft : guardB E all rs L dst fr Q σ type op true (some (.bool false)) = evNextD E all rs L dst fr Q (.tup []) σ := by simp [guardB]
theorem evOps_guardA {pos : String} {after : Array Edge} {j : Nat} : evOps E all (⟨dst, op, type, pos, after, some (j, want)⟩ :: os) fr σ Q = guardA E all os dst fr Q σ type op want (getO fr (dstOf all j)) := by
  rw [evOps_guard]
  cases dstOf all j with
  | none => rfl
  | some d => rfl
theorem evDo_guardA {pos : String} {after : Array Edge} {j : Nat} : evDo E all rs L fr σ Q (some ⟨dst, op, type, pos, after, some (j, want)⟩) = guardB E all rs L dst fr Q σ type op want (getO fr (dstOf all j)) := by
  rw [evDo_guard]
  cases dstOf all j with
  | none => rfl
  | some d => rfl
/-- A call, told by what is called. -/
def callF (E : Env) (σ : List AObj) (X : AV → List AObj → Prop) (f : Option AV) (as : Option (List AV)) : Prop := match f, as with
  | some (.fn (.func g) p q), some as => callA E g (p ++ as ++ q) σ X
  | some (.yield r), some as => AYield E.S r as σ X
  | _, _ => False
theorem evOp_callF {f : Operand} {args : Array Operand} {ats : Array TypeId} : evOp E fr σ type (.call ⟨.value f, args, ats⟩) X = callF E σ X (aeval fr f) (aevals fr args.toList) := rfl
theorem callF_fn {g : FuncId} {p q as : List AV} : callF E σ X (some (.fn (.func g) p q)) (some as) = callA E g (p ++ as ++ q) σ X := rfl
theorem callF_yield {r : Nat} {as : List AV} : callF E σ X (some (.yield r)) (some as) = AYield E.S r as σ X := rfl
def callM (E : Env) (σ : List AObj) (X : AV → List AObj → Prop) (v : AV) (as : List AV) : Option FuncId → Prop
  | some g => callA E g (v :: as) σ X
  | none => False
theorem callM_some {v : AV} {as : List AV} {g : FuncId} : callM E σ X v as (some g) = callA E g (v :: as) σ X := rfl
def callI (E : Env) (σ : List AObj) (X : AV → List AObj → Prop) (m : String) (f : Option AV) (as : Option (List AV)) : Prop := match f, as with
  | some (.iface t v), some as => callM E σ X v as (E.mt t m)
  | _, _ => False
theorem evOp_invokeI {r : Operand} {m : String} {args : Array Operand} {ats : Array TypeId} : evOp E fr σ type (.call ⟨.invoke r m, args, ats⟩) X = callI E σ X m (aeval fr r) (aevals fr args.toList) := by
  rw [evOp_invoke]
  cases aeval fr r with
  | none => rfl
  | some v =>
    cases aevals fr args.toList with
    | none => cases v <;> rfl
    | some l =>
      cases v with
      | iface t u => simp only [callI]; cases E.mt t m <;> rfl
      | _ => rfl
theorem callI_some {m : String} {t : TypeId} {v : AV} {as : List AV} : callI E σ X m (some (.iface t v)) (some as) = callM E σ X v as (E.mt t m) := rfl
end
end

/-- Slots anew. -/
def upd (sl : List (Nat × AV)) : List (Nat × AV) → List (Nat × AV)
  | [] => sl
  | p :: l => upd (ins sl p.1 p.2) l

/-- A loop that counts: lv is what the slots are at the head of round i, S what the objects are, P what is known. -/
theorem ARun.forS {E : Env} (hE : EnvOK E) {ro : Option Nat} {c : Code} {k : List Item} {kp : Nat → Bool} {tm sl : List (Nat × AV)} {σ : List AObj} {Q : Post} (n : Nat) (P : Nat → Prop) (lv : Nat → List (Nat × AV)) (S : Nat → List AObj → List AObj) (j0 : List AObj)
    (hO : todoOK E (.code c :: .inLoop c :: k) = true) (hσ : S 0 j0 = σ) (h0 : subF (upd sl (lv 0)) sl) (hP : P 0)
    (hs : ∀ i j, i < n → P i → (P (i + 1) → ∀ j', ARun E ro (.inLoop c :: k) ⟨kp, [], upd sl (lv (i + 1))⟩ (S (i + 1) j') Q) → ev E ro 100000 (.code c :: .inLoop c :: k) ⟨kp, [], upd sl (lv i)⟩ (S i j) Q)
    (he : ∀ j, P n → ev E ro 100000 (.code c :: .inLoop c :: k) ⟨kp, [], upd sl (lv n)⟩ (S n j) Q) : ARun E ro (.code (.loop c) :: k) ⟨kp, tm, sl⟩ σ Q := by
  have key : ∀ d i j, i + d = n → P i → ARun E ro (.code c :: .inLoop c :: k) ⟨kp, [], upd sl (lv i)⟩ (S i j) Q := by
    intro d
    induction d with
    | zero => intro i j hi hp; have : i = n := by omega
              subst this; exact ev_sound hE hO (he j hp)
    | succ d ih => intro i j hi hp; exact ev_sound hE hO (hs i j (by omega) hp fun hp' j' => .inLoop (ih (i + 1) j' (by omega) hp'))
  subst hσ
  exact .loop (ARun.sub (key n 0 j0 (by omega) hP) h0)

/-- A loop that counts, whose objects are told by a law. -/
theorem ARun.forJ {E : Env} (hE : EnvOK E) {ro : Option Nat} {c : Code} {k : List Item} {kp : Nat → Bool} {tm sl : List (Nat × AV)} {σ : List AObj} {Q : Post} (n : Nat) (J : Nat → List AObj → Prop) (lv : Nat → List (Nat × AV))
    (hO : todoOK E (.code c :: .inLoop c :: k) = true) (h0 : subF (upd sl (lv 0)) sl) (hJ : J 0 σ)
    (hs : ∀ i τ, i < n → J i τ → (∀ τ', J (i + 1) τ' → ARun E ro (.inLoop c :: k) ⟨kp, [], upd sl (lv (i + 1))⟩ τ' Q) → ev E ro 100000 (.code c :: .inLoop c :: k) ⟨kp, [], upd sl (lv i)⟩ τ Q)
    (he : ∀ τ, J n τ → ev E ro 100000 (.code c :: .inLoop c :: k) ⟨kp, [], upd sl (lv n)⟩ τ Q) : ARun E ro (.code (.loop c) :: k) ⟨kp, tm, sl⟩ σ Q := by
  have key : ∀ d i τ, i + d = n → J i τ → ARun E ro (.code c :: .inLoop c :: k) ⟨kp, [], upd sl (lv i)⟩ τ Q := by
    intro d
    induction d with
    | zero => intro i τ hi hp; have : i = n := by omega
              subst this; exact ev_sound hE hO (he τ hp)
    | succ d ih => intro i τ hi hp; exact ev_sound hE hO (hs i τ (by omega) hp fun τ' hp' => .inLoop (ih (i + 1) τ' (by omega) hp'))
  exact .loop (ARun.sub (key n 0 σ (by omega) hJ) h0)

theorem ARun.castS {E : Env} {ro : Option Nat} {todo : List Item} {kp : Nat → Bool} {tm sl sl' : List (Nat × AV)} {σ σ' : List AObj} {Q : Post} (h : ARun E ro todo ⟨kp, [], sl'⟩ σ' Q) (hσ : σ' = σ) (hs : subF sl' sl) : ARun E ro todo ⟨kp, tm, sl⟩ σ Q := by
  subst hσ; exact h.sub hs

theorem getElem?_at {α : Type} {l m : List α} : (l ++ m)[l.length]? = m[0]? := by rw [List.getElem?_append_right (by omega)]; simp
theorem getElem?_at' {α : Type} {l m : List α} {k : Nat} : (l ++ m)[l.length + k]? = m[k]? := by rw [List.getElem?_append_right (by omega)]; simp
theorem set_at {α : Type} {l m : List α} {x : α} : (l ++ m).set l.length x = l ++ m.set 0 x := by rw [List.set_append_right _ _ (by omega)]; simp
theorem set_at' {α : Type} {l m : List α} {k : Nat} {x : α} : (l ++ m).set (l.length + k) x = l ++ m.set k x := by rw [List.set_append_right _ _ (by omega)]; simp
theorem wrap64 {n : Int} (h1 : -9223372036854775808 ≤ n) (h2 : n < 9223372036854775808) : IntKind.i64.wrap n = n := by
  rw [IntKind.wrap_i64]; omega
end Go.Mu
set_option linter.unusedSimpArgs false
set_option linter.unusedVariables false
namespace Go.Mu
open Go Go.Conc

theorem VRs.weaken {K : Kr} {n : Nat} : ∀ {l l' : List AV} {cs : List Value}, wkL wk l l' → VRs K n l cs → VRs K n l' cs
  | l, l', cs, h, hv => by
    obtain ⟨h1, h2⟩ := wkL_len h
    refine ⟨by rw [← h1]; exact hv.1, fun i a b => ?_⟩
    have hi : i < l.length := by omega
    exact wk_weak (h2 i hi a) K n _ (hv.2 i hi b)
theorem PureV.weaken {P : Program} {S : MC P} {f : FuncId} {l l' : List AV} {v : AV} (h : wkL wk l l') (hp : PureV S f l' v) : PureV S f l v := fun σ Q hq => by
  have h0 := hp σ Q hq
  exact ⟨h0.1, fun M hM K w V cargs kd cs hR hO hV => h0.2 M hM K w V cargs kd cs hR hO (hV.weaken h)⟩
theorem ACalls.weaken {P : Program} {S : MC P} {f : FuncId} {l l' : List AV} {σ : List AObj} {Q : AV → List AObj → Prop} (h : wkL wk l l') (h0 : ACalls S f l' σ Q) : ACalls S f l σ Q :=
  ⟨h0.1, fun M hM K w V cargs kd cs hR hO hV => h0.2 M hM K w V cargs kd cs hR hO (hV.weaken h)⟩

theorem cells_bool (b : Bool) : (AV.bool b).cells = [AV.bool b] := rfl
theorem flat_bool (b : Bool) : (AV.bool b).flat = true := rfl
theorem cells_int (k : IntKind) (n : Int) : (AV.int k n).cells = [AV.int k n] := rfl
theorem flat_int (k : IntKind) (n : Int) : (AV.int k n).flat = true := rfl
theorem cells_str (s : ByteArray) : (AV.str s).cells = [AV.str s] := rfl
theorem flat_str (s : ByteArray) : (AV.str s).flat = true := rfl
theorem cells_ptr (r o : Nat) : (AV.ptr r o).cells = [AV.ptr r o] := rfl
theorem flat_ptr (r o : Nat) : (AV.ptr r o).flat = true := rfl
theorem cells_nilptr  : (AV.nilptr).cells = [AV.nilptr] := rfl
theorem flat_nilptr  : (AV.nilptr).flat = true := rfl
theorem cells_eptr (cs : List AV) (o : Nat) : (AV.eptr cs o).cells = [AV.eptr cs o] := rfl
theorem flat_eptr (cs : List AV) (o : Nat) : (AV.eptr cs o).flat = true := rfl
theorem cells_list (t : Tok) (z : Nat) (xs : List AV) : (AV.list t z xs).cells = [AV.list t z xs] := rfl
theorem flat_list (t : Tok) (z : Nat) (xs : List AV) : (AV.list t z xs).flat = true := rfl
theorem cells_arr (r o l : Nat) : (AV.arr r o l).cells = [AV.arr r o l] := rfl
theorem flat_arr (r o l : Nat) : (AV.arr r o l).flat = true := rfl
theorem cells_vec (r l : Nat) : (AV.vec r l).cells = [AV.vec r l] := rfl
theorem flat_vec (r l : Nat) : (AV.vec r l).flat = true := rfl
theorem cells_vptr (r m s i o : Nat) : (AV.vptr r m s i o).cells = [AV.vptr r m s i o] := rfl
theorem flat_vptr (r m s i o : Nat) : (AV.vptr r m s i o).flat = true := rfl
theorem cells_map (r : Nat) : (AV.map r).cells = [AV.map r] := rfl
theorem flat_map (r : Nat) : (AV.map r).flat = true := rfl
theorem cells_nilmap  : (AV.nilmap).cells = [AV.nilmap] := rfl
theorem flat_nilmap  : (AV.nilmap).flat = true := rfl
theorem cells_fn (f : Fn) (p q : List AV) : (AV.fn f p q).cells = [AV.fn f p q] := rfl
theorem flat_fn (f : Fn) (p q : List AV) : (AV.fn f p q).flat = true := rfl
theorem cells_yield (r : Nat) : (AV.yield r).cells = [AV.yield r] := rfl
theorem flat_yield (r : Nat) : (AV.yield r).flat = true := rfl
theorem cells_nilfn  : (AV.nilfn).cells = [AV.nilfn] := rfl
theorem flat_nilfn  : (AV.nilfn).flat = true := rfl
theorem cells_iface (t : TypeId) (v : AV) : (AV.iface t v).cells = [AV.iface t v] := rfl
theorem flat_iface (t : TypeId) (v : AV) : (AV.iface t v).flat = true := rfl
theorem cells_niliface  : (AV.niliface).cells = [AV.niliface] := rfl
theorem flat_niliface  : (AV.niliface).flat = true := rfl
theorem cells_agg (cs : List AV) : (AV.agg cs).cells = cs := rfl
theorem flat_agg (cs : List AV) : (AV.agg cs).flat = true := rfl
theorem appB_ff {e : TI} {σ : List AObj} {t : Tok} {sz : Nat} {xs : List AV} {sz' : Nat} {ys : List AV} : appB false e σ t sz xs sz' ys = appA e σ t sz xs sz' ys := rfl
theorem appB_nil {e : TI} {σ : List AObj} {sz : Nat} {sz' : Nat} {ys : List AV} : appB true e σ .full sz [] sz' ys = appF e σ sz' ys := rfl
theorem appB_cons {e : TI} {σ : List AObj} {sz : Nat} {x : AV} {xs : List AV} {sz' : Nat} {ys : List AV} : appB true e σ .full sz (x :: xs) sz' ys = appA e σ .full sz (x :: xs) sz' ys := rfl
theorem appB_own {e : TI} {σ : List AObj} {id : Nat} {sz : Nat} {xs : List AV} {sz' : Nat} {ys : List AV} : appB true e σ (.own id) sz xs sz' ys = appA e σ (.own id) sz xs sz' ys := rfl
/-- How data read. -/
structure Ty (α : Type) where
  dec : AV → Option α
  av : α → AV
  inv : ∀ {a x}, dec a = some x → wk a (av x)

def decs {α : Type} (d : AV → Option α) : List AV → Option (List α)
  | [] => some []
  | x :: xs => match d x, decs d xs with
    | some a, some l => some (a :: l)
    | _, _ => none
theorem decs_map {α : Type} {d : AV → Option α} {f : α → AV} (h : ∀ x, d (f x) = some x) : ∀ l : List α, decs d (l.map f) = some l
  | [] => rfl
  | x :: l => by simp only [List.map_cons, decs, h, decs_map h l]
theorem decs_inv {α : Type} {d : AV → Option α} {f : α → AV} (h : ∀ a x, d a = some x → a = f x) : ∀ {xs : List AV} {l : List α}, decs d xs = some l → xs = l.map f
  | [], l, e => by simp [decs] at e; subst e; rfl
  | x :: xs, l, e => by
    simp only [decs] at e
    split at e
    · rename_i a l' h1 h2
      simp at e; subst e
      rw [List.map_cons, ← h _ _ h1, ← decs_inv h h2]
    · cases e
/-- A list of n cells each. -/
def decL {α : Type} (n : Nat) (d : AV → Option α) : AV → Option (List α)
  | .list _ sz xs => if sz = n ∨ xs = [] then decs d xs else none
  | _ => none
theorem decL_inv {α : Type} {n : Nat} {d : AV → Option α} {f : α → AV} (h : ∀ a x, d a = some x → a = f x) {a : AV} {l : List α} (e : decL n d a = some l) : wk0 a (.list .no n (l.map f)) := by
  unfold decL at e
  split at e
  · split at e
    · rename_i t sz xs hs
      have := decs_inv h e
      subst this
      refine ⟨rfl, ?_, .inl rfl⟩
      rcases hs with h | h
      · exact .inl h
      · exact .inr h
    · cases e
  · cases e
theorem decL_inv' {α : Type} {n : Nat} {d : AV → Option α} {f : α → AV} (h : ∀ a x, d a = some x → a = f x) {a : AV} {l : List α} (e : decL n d a = some l) : wk a (.list .no n (l.map f)) := by
  have := decL_inv h e
  unfold decL at e
  split at e
  · exact this
  · cases e
theorem decL_self {α : Type} {n : Nat} {d : AV → Option α} {f : α → AV} (h : ∀ x, d (f x) = some x) {t : Tok} {l : List α} : decL n d (.list t n (l.map f)) = some l := by
  simp [decL, decs_map h]
theorem decL_cons {α : Type} {n : Nat} {d : AV → Option α} {t : Tok} {x : AV} {xs : List AV} : decL n d (.list t n (x :: xs)) = decs d (x :: xs) := by simp [decL]
theorem decs_cons {α : Type} {d : AV → Option α} {x : AV} {xs : List AV} : decs d (x :: xs) = (d x).bind fun a => (decs d xs).bind fun l => some (a :: l) := by
  simp only [decs]; cases d x <;> cases decs d xs <;> rfl
theorem decs_nil {α : Type} {d : AV → Option α} : decs d [] = some [] := rfl

def decI : AV → Option Int
  | .int .i64 n => some n
  | _ => none
theorem decI_inv (a : AV) (x : Int) (h : decI a = some x) : a = .int .i64 x := by
  unfold decI at h; split at h
  · simp at h; subst h; rfl
  · cases h
theorem decI_int {n : Int} : decI (.int .i64 n) = some n := rfl
def tI : Ty Int := ⟨decI, .int .i64, fun {a x} h => by rw [decI_inv a x h]; rfl⟩
def tIs : Ty (List Int) := ⟨decL 1 decI, fun l => .list .no 1 (l.map (.int .i64)), decL_inv' decI_inv⟩
theorem tI_dec {a : AV} : tI.dec a = decI a := rfl
theorem tIs_dec {a : AV} : tIs.dec a = decL 1 decI a := rfl
theorem decL_ints {t : Tok} {l : List Int} : decL 1 decI (.list t 1 (l.map (.int .i64))) = some l := decL_self (f := AV.int .i64) fun _ => rfl

variable {α β γ δ ε : Type} {P : Program} {S : MC P} {n : FuncId}
def spec1 (A : Ty α) (f : α → Option AV) : List AV → Option AV
  | [a] => (A.dec a).bind f
  | _ => none
def spec2 (A : Ty α) (B : Ty β) (f : α → β → Option AV) : List AV → Option AV
  | [a, b] => (A.dec a).bind fun x => (B.dec b).bind fun y => f x y
  | _ => none
def spec3 (A : Ty α) (B : Ty β) (C : Ty γ) (f : α → β → γ → Option AV) : List AV → Option AV
  | [a, b, c] => (A.dec a).bind fun x => (B.dec b).bind fun y => (C.dec c).bind fun z => f x y z
  | _ => none
theorem spec1_ok {A : Ty α} {f : α → Option AV} (h : ∀ x v, f x = some v → PureV S n [A.av x] v) : ∀ xs v, spec1 A f xs = some v → PureV S n xs v := by
  intro xs v e
  unfold spec1 at e
  split at e
  · rename_i a
    obtain ⟨x, h1, h2⟩ := Option.bind_eq_some_iff.1 e
    exact PureV.weaken (l' := [A.av x]) ⟨A.inv h1, trivial⟩ (h x v h2)
  · cases e
theorem spec2_ok {A : Ty α} {B : Ty β} {f : α → β → Option AV} (h : ∀ x y v, f x y = some v → PureV S n [A.av x, B.av y] v) : ∀ xs v, spec2 A B f xs = some v → PureV S n xs v := by
  intro xs v e
  unfold spec2 at e
  split at e
  · obtain ⟨x, h1, e⟩ := Option.bind_eq_some_iff.1 e
    obtain ⟨y, h2, e⟩ := Option.bind_eq_some_iff.1 e
    exact PureV.weaken (l' := [A.av x, B.av y]) ⟨A.inv h1, B.inv h2, trivial⟩ (h x y v e)
  · cases e
theorem spec3_ok {A : Ty α} {B : Ty β} {C : Ty γ} {f : α → β → γ → Option AV} (h : ∀ x y z v, f x y z = some v → PureV S n [A.av x, B.av y, C.av z] v) : ∀ xs v, spec3 A B C f xs = some v → PureV S n xs v := by
  intro xs v e
  unfold spec3 at e
  split at e
  · obtain ⟨x, h1, e⟩ := Option.bind_eq_some_iff.1 e
    obtain ⟨y, h2, e⟩ := Option.bind_eq_some_iff.1 e
    obtain ⟨z, h3, e⟩ := Option.bind_eq_some_iff.1 e
    exact PureV.weaken (l' := [A.av x, B.av y, C.av z]) ⟨A.inv h1, B.inv h2, C.inv h3, trivial⟩ (h x y z v e)
  · cases e
theorem leT {a b : Int} (h : a ≤ b) : (a ≤ b) = True := eq_true h
theorem leF {a b : Int} (h : ¬ a ≤ b) : (a ≤ b) = False := eq_false h
theorem ltT {a b : Int} (h : a < b) : (a < b) = True := eq_true h
theorem ltF {a b : Int} (h : ¬ a < b) : (a < b) = False := eq_false h
theorem eqT {a b : Int} (h : a = b) : (a = b) = True := eq_true h
theorem eqF {a b : Int} (h : ¬ a = b) : (a = b) = False := eq_false h
theorem nleT {a b : Nat} (h : a ≤ b) : (a ≤ b) = True := eq_true h
theorem nltT {a b : Nat} (h : a < b) : (a < b) = True := eq_true h
theorem wrapI {n : Int} (h1 : -9223372036854775808 ≤ n) (h2 : n < 9223372036854775808) : IntKind.i64.wrap n = n := wrap64 h1 h2
/-- An element by a number of Go's. -/
def tg (t : List Int) (i : Int) : Int := t.getD i.toNat 0
theorem tget {t : List Int} {x : Int} (h0 : 0 ≤ x) (h1 : x < t.length) : (t.map (AV.int .i64))[x.toNat]? = some (.int .i64 (tg t x)) := by
  have : x.toNat < t.length := by omega
  simp [tg, List.getElem?_eq_getElem this, List.getD]
theorem idx_tg {t : List Int} {x : Int} (h0 : 0 ≤ x) (h1 : x < t.length) : idx (t.map (AV.int .i64)) x = some (.int .i64 (tg t x)) := by
  unfold idx; rw [if_pos h0]; exact tget h0 h1
theorem idx_nat {α : Type} {f : α → AV} {l : List α} {i : Nat} (h : i < l.length) : idx (l.map f) (i : Int) = some (f l[i]) := idx_map h
theorem neqF {a b : Nat} (h : ¬ a = b) : (a = b) = False := eq_false h
theorem nltF {a b : Nat} (h : ¬ a < b) : (a < b) = False := eq_false h
theorem neqT {a b : Nat} (h : a = b) : (a = b) = True := eq_true h
theorem take_map {α : Type} {f : α → AV} {t : List α} {n : Nat} (h : t.length ≤ n) : (t.map f).take n = t.map f := List.take_of_length_le (by simpa using h)
/-- An element is turned. -/
def setI (t : List Int) (i x : Int) : List Int := t.set i.toNat x
theorem putAt_cons {off : Nat} {n : AV} {new : List AV} {c : AV} {cs : List AV} : putAt off (n :: new) (c :: cs) = (c :: cs).take off ++ (n :: new) ++ (c :: cs).drop (off + (n :: new).length) := rfl
theorem putAt_map3 {t : List Int} {a b c : AV} (h : t.length = 3) : putAt 0 (t.map (AV.int .i64)) [a, b, c] = t.map (AV.int .i64) := by
  simp [putAt, h]
theorem putAt_set {t : List Int} {i x : Int} (h0 : 0 ≤ i) (h : i < t.length) : putAt i.toNat [AV.int .i64 x] (t.map (AV.int .i64)) = (setI t i x).map (AV.int .i64) := by
  have hi : i.toNat < t.length := by omega
  have hi' : i.toNat < (t.map (AV.int .i64)).length := by simpa using hi
  have e : ∀ (l : List AV) (v : AV), i.toNat < l.length → putAt i.toNat [v] l = l.set i.toNat v := fun l v hl => by
    simp only [putAt, List.length_cons, List.length_nil]
    rw [List.set_eq_take_append_cons_drop, if_pos hl]; simp
  rw [e _ _ hi']; unfold setI; rw [List.map_set]
/-- A function that is told under a condition. -/
theorem someIf {c : Prop} [Decidable c] {a v : AV} (h : (if c then some a else none) = some v) : c ∧ a = v := by
  split at h
  · rename_i hc; simp at h; exact ⟨hc, h⟩
  · cases h
/-- Maps by integers, as lists. -/
def fIdx {α : Type} (k : Int) : List (Int × α) → Nat → Option (Nat × α)
  | [], _ => none
  | (k', v) :: m, i => if k = k' then some (i, v) else fIdx k m (i + 1)
def mset {α : Type} (m : List (Int × α)) (k : Int) (v : α) : List (Int × α) := match fIdx k m 0 with
  | some (i, _) => m.set i (k, v)
  | none => m ++ [(k, v)]
def mget {α : Type} (m : List (Int × α)) (k : Int) : Option α := (fIdx k m 0).map (·.2)
theorem findA_map {α : Type} (f : α → AV) (k : Int) : ∀ (m : List (Int × α)) (i : Nat), findA (.int .i64 k) (m.map fun p => (AV.int .i64 p.1, f p.2)) i = some ((fIdx k m i).map fun q => (q.1, f q.2))
  | [], i => rfl
  | (k', v) :: m, i => by
    simp only [List.map_cons, findA, keyEq, if_true, fIdx]
    by_cases h : k = k'
    · subst h; simp
    · have : (k == k') = false := by simpa using h
      rw [this, if_neg h]
      exact findA_map f k m (i + 1)
theorem updR_map {α : Type} {f : α → AV} {r : Nat} {m : List (Int × α)} {k : Int} {v : α} {σ : List AObj} :
    updR r (m.map fun p => (AV.int .i64 p.1, f p.2)) (.int .i64 k) (f v) σ (findA (.int .i64 k) (m.map fun p => (AV.int .i64 p.1, f p.2)) 0) = some (.tup [], hset σ r (.map ((mset m k v).map fun p => (AV.int .i64 p.1, f p.2)))) := by
  rw [findA_map]
  unfold mset
  cases fIdx k m 0 with
  | none => simp [updR]
  | some q => simp [updR, List.map_set]
theorem lookR_map {α : Type} {f : α → AV} {m : List (Int × α)} {k : Int} {ok : Bool} {z : AV} {σ : List AObj} :
    lookR ok z σ (findA (.int .i64 k) (m.map fun p => (AV.int .i64 p.1, f p.2)) 0) = some (match mget m k with
      | some v => if ok then .tup [f v, .bool true] else f v
      | none => if ok then .tup [z, .bool false] else z, σ) := by
  rw [findA_map]
  unfold mget
  cases fIdx k m 0 with
  | none => rfl
  | some q => rfl
def mapB (m : List (Int × Bool)) : List (AV × AV) := m.map fun p => (AV.int .i64 p.1, AV.bool p.2)
theorem lookB {m : List (Int × Bool)} {k : Int} {σ : List AObj} : lookR false (.bool false) σ (findA (.int .i64 k) (mapB m) 0) = some (.bool ((mget m k).getD false), σ) := by
  have := lookR_map (f := AV.bool) (m := m) (k := k) (ok := false) (z := .bool false) (σ := σ)
  unfold mapB; rw [this]
  cases mget m k <;> rfl
theorem updB {m : List (Int × Bool)} {k : Int} {v : Bool} {r : Nat} {σ : List AObj} : updR r (mapB m) (.int .i64 k) (.bool v) σ (findA (.int .i64 k) (mapB m) 0) = some (.tup [], hset σ r (.map (mapB (mset m k v)))) := updR_map (f := AV.bool)
end Go.Mu
