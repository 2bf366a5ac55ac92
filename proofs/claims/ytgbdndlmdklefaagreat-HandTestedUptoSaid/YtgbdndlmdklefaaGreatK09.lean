/- Part P of the abstract layer: code is walked by rewriting. -/
import Derived.Test.YtgbdndlmdklefaaGreatK08
import Derived.OrdersIn
set_option linter.unusedSimpArgs false
set_option linter.unusedVariables false
namespace Go.Mu
open Go Go.Conc

variable {E : Env} {ro : Option Nat} {K : Kr}

abbrev Post := Option Code → Fr → List AObj → Prop

theorem evOp_mono {fr : Fr} {σ : List AObj} {type : TypeId} {op : Op} {X Y : AV → List AObj → Prop} (hn : ∀ v σ, X v σ → Y v σ) (h : evOp E fr σ type op X) : evOp E fr σ type op Y := by
  have hplain : (match aop E fr σ type op with | some (v, σ') => X v σ' | none => False) → (match aop E fr σ type op with | some (v, σ') => Y v σ' | none => False) := fun h => by
    split at h
    · exact hn _ _ h
    · exact h.elim
  cases op with
  | call c =>
    obtain ⟨callee, args, ats⟩ := c
    cases callee with
    | builtin b => exact hplain h
    | value f =>
      simp only [evOp] at h ⊢
      split at h
      · exact callA_mono hn h
      · intro K w cargs hR hV
        obtain ⟨fn, tmps, assign, body, h1, h2⟩ := h K w cargs hR hV
        exact ⟨fn, tmps, assign, body, h1, fun M hM V hO c cs => M.bind (h2 M hM V hO c cs) fun g' w' V' ⟨v, c', σ', K', g1, g2, g3⟩ => M.ret ⟨v, c', σ', K', g1, hn _ _ g2, g3⟩⟩
      · exact h.elim
    | invoke r m =>
      simp only [evOp] at h ⊢
      split at h
      · split at h
        · exact callA_mono hn h
        · exact h.elim
      · exact h.elim
  | next it b =>
    simp only [evOp] at h ⊢
    split at h
    · rename_i hb; rw [if_pos hb]; exact nextS_mono hn h
    · rename_i hb; rw [if_neg hb]; exact nextA_mono hn h
  | binOp bo t x y u =>
    simp only [evOp] at h ⊢
    cases hy : isNilC y with
    | true => rw [hy] at h; exact nilA_mono hn h
    | false => rw [hy] at h; exact hplain h
  | _ => exact hplain h
theorem evOps_mono {all : List Oper} {Q Q' : Fr → List AObj → Prop} (hq : ∀ fr σ, Q fr σ → Q' fr σ) : ∀ {os : List Oper} {fr : Fr} {σ : List AObj}, evOps E all os fr σ Q → evOps E all os fr σ Q'
  | [], fr, σ, h => hq _ _ h
  | o :: os, fr, σ, h => by
    rw [evOps_cons] at h ⊢
    have hn : ∀ v σ', evNext E all os o.dst fr Q v σ' → evNext E all os o.dst fr Q' v σ' := fun v σ' h => by
      unfold evNext at h ⊢
      split at h
      · exact evOps_mono hq h
      · exact ⟨h.1, evOps_mono hq h.2⟩
    split at h
    · exact h
    · exact ⟨fun hb => evOp_mono hn (h.1 hb), fun hb => hn _ _ (h.2 hb)⟩

theorem anew_FR {n N : Nat} {fr : Fr} {a : Act} (h : FR K n N fr a.tmps) : FR K n N fr.anew a.tmps := ⟨h.1, fun t v hv => h.2 t v (Fr.get_anew hv)⟩
theorem ARun.anew {todo : List Item} {fr : Fr} {σ : List AObj} {Q : Post} (h : ARun E ro todo fr.anew σ Q) : ARun E ro todo fr σ Q :=
  fun M hM K w V a b cs hb hR hO hF => h M hM K w V a b cs hb hR hO (anew_FR hF)

section congrs
variable {n : Nat} {k : List Item} {fr : Fr} {σ : List AObj} {Q : Post}
@[congr] theorem ARun_congr {todo : List Item} {fr fr' : Fr} {σ σ' : List AObj} {Q : Post} (h1 : fr = fr') (h2 : σ = σ') : ARun E ro todo fr σ Q = ARun E ro todo fr' σ' Q := by rw [h1, h2]
@[congr] theorem evOps_congr {all os : List Oper} {fr fr' : Fr} {σ σ' : List AObj} {Q : Fr → List AObj → Prop} (h1 : fr = fr') (h2 : σ = σ') : evOps E all os fr σ Q = evOps E all os fr' σ' Q := by rw [h1, h2]
@[congr] theorem evNext_congr {all os : List Oper} {dst : Option Tmp} {fr fr' : Fr} {Q : Fr → List AObj → Prop} {v v' : AV} {σ σ' : List AObj} (h1 : fr = fr') (h2 : v = v') (h3 : σ = σ') : evNext E all os dst fr Q v σ = evNext E all os dst fr' Q v' σ' := by rw [h1, h2, h3]
@[congr] theorem ACalls_congr {P : Program} {S : MC P} {f : FuncId} {args args' : List AV} {σ σ' : List AObj} {Q : AV → List AObj → Prop} (h1 : args = args') (h2 : σ = σ') : ACalls S f args σ Q = ACalls S f args' σ' Q := by rw [h1, h2]
@[congr] theorem AYield_congr {P : Program} {S : MC P} {f : FuncId} {args args' : List AV} {σ σ' : List AObj} {Q : AV → List AObj → Prop} (h1 : args = args') (h2 : σ = σ') : AYield S f args σ Q = AYield S f args' σ' Q := by rw [h1, h2]
@[congr] theorem evOp_congr {fr : Fr} {σ σ' : List AObj} {type : TypeId} {op : Op} {Q : AV → List AObj → Prop} (h2 : σ = σ') : evOp E fr σ type op Q = evOp E fr σ' type op Q := by rw [h2]
@[congr] theorem wantA_congr {ds : List Oper} {fr : Fr} {g : Option (Nat × Bool)} : wantA ds fr g = wantA ds fr g := rfl
end congrs

section ops
variable {all os : List Oper} {fr : Fr} {σ : List AObj} {Q : Fr → List AObj → Prop} {type : TypeId} {X : AV → List AObj → Prop}
theorem evOps_nil : evOps E all [] fr σ Q = Q fr σ := rfl
theorem evOps_plain {dst : Option Tmp} {op : Op} {pos : String} {after : Array Edge} : evOps E all (⟨dst, op, type, pos, after, none⟩ :: os) fr σ Q = evOp E fr σ type op (evNext E all os dst fr Q) := by
  rw [evOps_cons]; simp [wantA]
/-- The operation to which a condition points. -/
def dstOf : List Oper → Nat → Option Tmp
  | [], _ => none
  | o :: _, 0 => o.dst
  | _ :: os, j + 1 => dstOf os j
theorem dstOf_eq : ∀ (l : List Oper) (j : Nat), (l[j]?).bind (·.dst) = dstOf l j
  | [], _ => by simp [dstOf]
  | o :: _, 0 => by simp [dstOf]
  | _ :: os, j + 1 => by simp [dstOf, dstOf_eq os j]
@[congr] theorem dstOf_congr {l : List Oper} {j : Nat} : dstOf l j = dstOf l j := rfl
theorem dstOf_zero {o : Oper} {l : List Oper} : dstOf (o :: l) 0 = o.dst := rfl
theorem dstOf_succ {o : Oper} {l : List Oper} {j : Nat} : dstOf (o :: l) (j + 1) = dstOf l j := rfl
theorem evOps_guard {dst : Option Tmp} {op : Op} {pos : String} {after : Array Edge} {j : Nat} {want : Bool} : evOps E all (⟨dst, op, type, pos, after, some (j, want)⟩ :: os) fr σ Q =
    match dstOf all j with
    | none => False
    | some d => match fr.get d with
      | some (.bool b) => (b = want → evOp E fr σ type op (evNext E all os dst fr Q)) ∧ (b = !want → evNext E all os dst fr Q (.tup []) σ)
      | some (.tup []) => evNext E all os dst fr Q (.tup []) σ
      | _ => False := by
  rw [evOps_cons]
  simp only [wantA, dstOf_eq]
  cases dstOf all j with
  | none => rfl
  | some d =>
    simp only
    cases h : fr.get d with
    | none => rfl
    | some v =>
      cases v with
      | bool b => cases b <;> cases want <;> simp
      | tup vs => cases vs <;> simp
      | _ => rfl
theorem evNext_none {v : AV} : evNext E all os none fr Q v σ = evOps E all os fr σ Q := rfl
theorem evNext_some {d : Tmp} {v : AV} : evNext E all os (some d) fr Q v σ = (d < E.N ∧ evOps E all os (fr.put d v) σ Q) := rfl

/-- One result of an operation. -/
def giveA (X : AV → List AObj → Prop) (σ : List AObj) : Option AV → Prop
  | some v => X v σ
  | none => False
def give2 (X : AV → List AObj → Prop) : Option (AV × List AObj) → Prop
  | some (v, σ) => X v σ
  | none => False
@[congr] theorem giveA_congr {σ σ' : List AObj} {v v' : Option AV} (h2 : σ = σ') (h1 : v = v') : giveA X σ v = giveA X σ' v' := by rw [h1, h2]
@[congr] theorem give2_congr {v v' : Option (AV × List AObj)} (h1 : v = v') : give2 X v = give2 X v' := by rw [h1]
theorem giveA_some {v : AV} : giveA X σ (some v) = X v σ := rfl
theorem give2_some {v : AV} : give2 X (some (v, σ)) = X v σ := rfl

theorem evOp_of_pop {op : Op} (h1 : ∀ K, evOp E fr σ type op K = match aop E fr σ type op with | some (v, σ') => K v σ' | none => False) (h2 : litOp E.ty fr op = none) (h3 : hop E.ty fr σ op = none) : evOp E fr σ type op X = giveA X σ (pop E.ty fr type op) := by
  rw [h1]
  unfold aop
  cases pop E.ty fr type op with
  | some v => rfl
  | none => simp [h2, h3, giveA]
theorem evOp_move {x : Operand} : evOp E fr σ type (.move x) X = giveA X σ (pop E.ty fr type (.move x)) := evOp_of_pop (fun _ => rfl) rfl rfl
theorem evOp_assign {x : Operand} : evOp E fr σ type (.assign x) X = giveA X σ (pop E.ty fr type (.assign x)) := evOp_of_pop (fun _ => rfl) rfl rfl
theorem evOp_pick {c x y : Operand} : evOp E fr σ type (.pick c x y) X = giveA X σ (pop E.ty fr type (.pick c x y)) := evOp_of_pop (fun _ => rfl) rfl rfl
theorem evOp_build {t : TypeId} {p : Array (Nat × Operand)} : evOp E fr σ type (.build t p) X = giveA X σ (pop E.ty fr type (.build t p)) := evOp_of_pop (fun _ => rfl) rfl rfl
theorem evOp_fieldAddr {t : TypeId} {x : Operand} {f : Nat} : evOp E fr σ type (.fieldAddr t x f) X = giveA X σ (pop E.ty fr type (.fieldAddr t x f)) := evOp_of_pop (fun _ => rfl) rfl rfl
theorem evOp_index {t : TypeId} {x i : Operand} : evOp E fr σ type (.index t x i) X = giveA X σ (pop E.ty fr type (.index t x i)) := evOp_of_pop (fun _ => rfl) rfl rfl
theorem evOp_indexAddr {t : TypeId} {x i : Operand} : evOp E fr σ type (.indexAddr t x i) X = giveA X σ (pop E.ty fr type (.indexAddr t x i)) := evOp_of_pop (fun _ => rfl) rfl rfl
theorem evOp_nilCheck {x : Operand} : evOp E fr σ type (.nilCheck x) X = giveA X σ (pop E.ty fr type (.nilCheck x)) := evOp_of_pop (fun _ => rfl) rfl rfl
theorem evOp_binOp {op : BinOp} {t u : TypeId} {x y : Operand} (hy : isNilC y = false) : evOp E fr σ type (.binOp op t x y u) X = giveA X σ (pop E.ty fr type (.binOp op t x y u)) := evOp_of_pop (fun _ => by
  show (match isNilC y with
    | true => _
    | false => _) = _
  rw [hy] <;> cases aop E fr σ type (.binOp op t x y u) <;> rfl) rfl rfl
/-- A comparison with nil, or another operation of two operands. -/
def binS (A B : Prop) : Bool → Prop
  | true => A
  | false => B
@[congr] theorem binS_congr {A B : Prop} {b b' : Bool} (h : b = b') : binS A B b = binS A B b' := by rw [h]
theorem binS_true {A B : Prop} : binS A B true = A := rfl
theorem binS_false {A B : Prop} : binS A B false = B := rfl
theorem isNilC_tmp {t : Tmp} : isNilC (.tmp t) = false := rfl
theorem isNilC_int {k : IntKind} {n : Int} : isNilC (.const (.int k n)) = false := rfl
theorem isNilC_bool {b : Bool} : isNilC (.const (.bool b)) = false := rfl
theorem isNilC_str {s : ByteArray} : isNilC (.const (.string s)) = false := rfl
theorem isNilC_nil : isNilC (.const (.slice none 0 0)) = true := rfl
theorem isNilC_iface : isNilC (.const .nilIface) = false := rfl
theorem isNilC_ptr {a : Option Addr} : isNilC (.const (.pointer a)) = false := rfl
/-- A truth value: both ways at once. -/
def giveB (X : AV → List AObj → Prop) (σ : List AObj) : Option AV → Prop
  | some (.bool b) => (b = true → X (.bool true) σ) ∧ (b = false → X (.bool false) σ)
  | some v => X v σ
  | none => False
theorem giveB_eq {v : Option AV} : giveB X σ v = giveA X σ v := by
  cases v with
  | none => rfl
  | some v =>
    cases v with
    | bool b => cases b <;> simp [giveB, giveA]
    | _ => rfl
@[congr] theorem giveB_congr {σ σ' : List AObj} {v v' : Option AV} (h2 : σ = σ') (h1 : v = v') : giveB X σ v = giveB X σ' v' := by rw [h1, h2]
theorem giveB_int {k : IntKind} {i : Int} : giveB X σ (some (.int k i)) = X (.int k i) σ := rfl
theorem giveB_str {s : ByteArray} : giveB X σ (some (.str s)) = X (.str s) σ := rfl
theorem evOp_bin {op : BinOp} {t u : TypeId} {x y : Operand} : evOp E fr σ type (.binOp op t x y u) X = binS (nilA X σ op (E.ty t).kd (aeval fr x)) (giveB X σ (pop E.ty fr type (.binOp op t x y u))) (isNilC y) := by
  cases hy : isNilC y with
  | true => simp only [evOp, hy, binS]
  | false => rw [giveB_eq]; exact evOp_binOp hy
theorem nilA_eql {e sz : Nat} {t : Tok} {xs : List AV} : nilA X σ .eql (.slice e) (some (.list t sz xs)) = (X (.bool false) σ ∧ (xs = [] → X (.bool true) σ)) := rfl
theorem nilA_neq {e sz : Nat} {t : Tok} {xs : List AV} : nilA X σ .neq (.slice e) (some (.list t sz xs)) = (X (.bool true) σ ∧ (xs = [] → X (.bool false) σ)) := rfl
theorem nilA_eqlV {e r l : Nat} : nilA X σ .eql (.slice e) (some (.vec r l)) = (X (.bool false) σ ∧ (l = 0 → X (.bool true) σ)) := rfl
theorem nilA_neqV {e r l : Nat} : nilA X σ .neq (.slice e) (some (.vec r l)) = (X (.bool true) σ ∧ (l = 0 → X (.bool false) σ)) := rfl
@[congr] theorem nilA_congr {bo : BinOp} {kd kd' : TK} {v v' : Option AV} (h1 : kd = kd') (h2 : v = v') : nilA X σ bo kd v = nilA X σ bo kd' v' := by rw [h1, h2]
theorem evOp_unOp {op : UnOp} {t : TypeId} {x : Operand} : evOp E fr σ type (.unOp op t x) X = giveA X σ (pop E.ty fr type (.unOp op t x)) := evOp_of_pop (fun _ => rfl) rfl rfl
/-- A conversion: of a number; of bytes. -/
def convS (X : AV → List AObj → Prop) (σ : List AObj) : Option AV → Option (AV × List AObj) → Prop
  | some v, _ => X v σ
  | none, h => give2 X h
@[congr] theorem convS_congr {σ σ' : List AObj} {v v' : Option AV} {h h' : Option (AV × List AObj)} (h1 : σ = σ') (h2 : v = v') (h3 : h = h') : convS X σ v h = convS X σ' v' h' := by rw [h1, h2, h3]
theorem convS_some {v : AV} {h : Option (AV × List AObj)} : convS X σ (some v) h = X v σ := rfl
theorem convS_none {h : Option (AV × List AObj)} : convS X σ none h = give2 X h := rfl
theorem evOp_convert {s t : TypeId} {x : Operand} : evOp E fr σ type (.convert s t x) X = convS X σ (pop E.ty fr type (.convert s t x)) (hop E.ty fr σ (.convert s t x)) := by
  show (match aop E fr σ type (.convert s t x) with | some (v, σ') => X v σ' | none => False) = _
  unfold aop
  cases pop E.ty fr type (.convert s t x) with
  | some v => rfl
  | none =>
    show (match hop E.ty fr σ (.convert s t x) with | some (v, σ') => X v σ' | none => False) = _
    cases hop E.ty fr σ (.convert s t x) with
    | none => rfl
    | some p => rfl
theorem evOp_makeInterface {t : TypeId} {x : Operand} : evOp E fr σ type (.makeInterface t x) X = giveA X σ (pop E.ty fr type (.makeInterface t x)) := evOp_of_pop (fun _ => rfl) rfl rfl
theorem evOp_makeFunc {f : Fn} {x y : Array Operand} : evOp E fr σ type (.makeFunc f x y) X = giveA X σ (pop E.ty fr type (.makeFunc f x y)) := evOp_of_pop (fun _ => rfl) rfl rfl
theorem evOp_extract {x : Operand} {i : Nat} : evOp E fr σ type (.extract x i) X = giveA X σ (pop E.ty fr type (.extract x i)) := evOp_of_pop (fun _ => rfl) rfl rfl
theorem evOp_len {args : Array Operand} {ats : Array TypeId} : evOp E fr σ type (.call ⟨.builtin .len, args, ats⟩) X = giveA X σ (pop E.ty fr type (.call ⟨.builtin .len, args, ats⟩)) := evOp_of_pop (fun _ => rfl) rfl rfl
def lenO (k : TK) : Option AV → Option AV
  | some (.list _ _ xs) => (match k with | .slice _ => some (.int .i64 xs.length) | _ => none)
  | some (.arr _ _ n) => (match k with | .slice _ => some (.int .i64 n) | _ => none)
  | some (.vec _ n) => (match k with | .slice _ => some (.int .i64 n) | _ => none)
  | some (.str s) => (match k with | .str => some (.int .i64 s.size) | _ => none)
  | _ => none
theorem evOp_len1 {x : Operand} {t : TypeId} : evOp E fr σ type (.call ⟨.builtin .len, #[x], #[t]⟩) X = giveA X σ (lenO (E.ty t).kd (aeval fr x)) := by
  rw [evOp_len]
  simp only [pop, aevals, List.getElem?_toArray, List.getElem?_cons_zero]
  cases aeval fr x with
  | none => rfl
  | some v =>
    simp only
    cases v <;> cases (E.ty t).kd <;> rfl
theorem evOp_max {args : Array Operand} {ats : Array TypeId} : evOp E fr σ type (.call ⟨.builtin .max, args, ats⟩) X = giveA X σ (pop E.ty fr type (.call ⟨.builtin .max, args, ats⟩)) := evOp_of_pop (fun _ => rfl) rfl rfl
theorem evOp_min {args : Array Operand} {ats : Array TypeId} : evOp E fr σ type (.call ⟨.builtin .min, args, ats⟩) X = giveA X σ (pop E.ty fr type (.call ⟨.builtin .min, args, ats⟩)) := evOp_of_pop (fun _ => rfl) rfl rfl
theorem evOp_buildSlice {t : TypeId} {n : Nat} {p : Array (Nat × Operand)} : evOp E fr σ type (.buildSlice t n p) X = giveA X σ (litOp E.ty fr (.buildSlice t n p)) := by
  show (match aop E fr σ type (.buildSlice t n p) with | some (v, σ') => X v σ' | none => False) = _
  have h : aop E fr σ type (.buildSlice t n p) = (litOp E.ty fr (.buildSlice t n p)).map fun v => (v, σ) := by
    show (match litOp E.ty fr (.buildSlice t n p) with | some v => some (v, σ) | none => hop E.ty fr σ (.buildSlice t n p)) = _
    cases litOp E.ty fr (.buildSlice t n p) <;> rfl
  rw [h]
  cases litOp E.ty fr (.buildSlice t n p) <;> rfl
theorem evOp_of_hop {op : Op} (h1 : ∀ K, evOp E fr σ type op K = match aop E fr σ type op with | some (v, σ') => K v σ' | none => False) (h2 : litOp E.ty fr op = none) (h3 : pop E.ty fr type op = none) : evOp E fr σ type op X = give2 X (hop E.ty fr σ op) := by
  rw [h1]; unfold aop; simp only [h2, h3]
  cases hop E.ty fr σ op with
  | none => rfl
  | some p => rfl
theorem evOp_alloc {t : TypeId} : evOp E fr σ type (.alloc t) X = give2 X (hop E.ty fr σ (.alloc t)) := evOp_of_hop (fun _ => rfl) rfl rfl
theorem evOp_box {t : TypeId} {x : Operand} : evOp E fr σ type (.box t x) X = give2 X (hop E.ty fr σ (.box t x)) := evOp_of_hop (fun _ => rfl) rfl rfl
theorem evOp_makeSlice {t : TypeId} {x y : Operand} : evOp E fr σ type (.makeSlice t x y) X = give2 X (hop E.ty fr σ (.makeSlice t x y)) := evOp_of_hop (fun _ => rfl) rfl rfl
theorem evOp_load {t : TypeId} {x : Operand} : evOp E fr σ type (.load t x) X = give2 X (hop E.ty fr σ (.load t x)) := evOp_of_hop (fun _ => rfl) rfl rfl
theorem evOp_store {t : TypeId} {x y : Operand} : evOp E fr σ type (.store t x y) X = give2 X (hop E.ty fr σ (.store t x y)) := evOp_of_hop (fun _ => rfl) rfl rfl
theorem evOp_append {args : Array Operand} {ats : Array TypeId} : evOp E fr σ type (.call ⟨.builtin .append, args, ats⟩) X = give2 X (hop E.ty fr σ (.call ⟨.builtin .append, args, ats⟩)) := by
  refine evOp_of_hop (fun _ => rfl) rfl ?_
  simp only [pop]
theorem evOp_invoke {r : Operand} {m : String} {args : Array Operand} {ats : Array TypeId} : evOp E fr σ type (.call ⟨.invoke r m, args, ats⟩) X = match aeval fr r, aevals fr args.toList with
    | some (.iface t v), some as => match E.mt t m with
      | some g => callA E g (v :: as) σ X
      | none => False
    | _, _ => False := rfl

theorem evOp_next {it : Operand} : evOp E fr σ type (.next it false) X = nextA X σ (aeval fr it) := by
  show (if false = true then nextS X σ (aeval fr it) else nextA X σ (aeval fr it)) = _
  rw [if_neg (by simp)]
theorem nextS_ptr {r : Nat} : nextS X σ (some (.ptr r 0)) = nextSR X σ r (hget σ r) := rfl
theorem nextSR_it {r : Nat} {s : ByteArray} {pos : Nat} : nextSR X σ r (some (.siter s pos)) = nextSB X σ r s pos s[pos]? := rfl
theorem nextSB_some {r : Nat} {s : ByteArray} {pos : Nat} {b : UInt8} : nextSB X σ r s pos (some b) = (b.toNat < 128 ∧ X (.tup [.bool true, .int .i64 pos, .int .i32 b.toNat]) (hset σ r (.siter s (pos + 1)))) := rfl
theorem nextSB_none {r : Nat} {s : ByteArray} {pos : Nat} : nextSB X σ r s pos none = X (.tup [.bool false]) σ := rfl
@[congr] theorem nextS_congr {σ σ' : List AObj} {v v' : Option AV} (h2 : σ = σ') (h3 : v = v') : nextS X σ v = nextS X σ' v' := by rw [h2, h3]
@[congr] theorem nextSR_congr {σ σ' : List AObj} {r r' : Nat} {v v' : Option AObj} (h1 : r = r') (h2 : σ = σ') (h3 : v = v') : nextSR X σ r v = nextSR X σ' r' v' := by rw [h1, h2, h3]
@[congr] theorem nextSB_congr {σ σ' : List AObj} {r r' : Nat} {s s' : ByteArray} {pos pos' : Nat} {v v' : Option UInt8} (h1 : r = r') (h2 : σ = σ') (h4 : s = s') (h5 : pos = pos') (h3 : v = v') : nextSB X σ r s pos v = nextSB X σ' r' s' pos' v' := by rw [h1, h2, h3, h4, h5]
theorem evOp_makeMap {t : TypeId} : evOp E fr σ type (.makeMap t none) X = give2 X (hop E.ty fr σ (.makeMap t none)) := evOp_of_hop (fun _ => rfl) rfl rfl
theorem evOp_lookup {t : TypeId} {m k : Operand} {ok : Bool} : evOp E fr σ type (.lookup t m k ok) X = give2 X (hop E.ty fr σ (.lookup t m k ok)) := evOp_of_hop (fun _ => rfl) rfl rfl
theorem evOp_mapUpdate {t : TypeId} {m k x : Operand} : evOp E fr σ type (.mapUpdate t m k x) X = give2 X (hop E.ty fr σ (.mapUpdate t m k x)) := evOp_of_hop (fun _ => rfl) rfl rfl
theorem evOp_range {t : TypeId} {m : Operand} : evOp E fr σ type (.range t m) X = give2 X (hop E.ty fr σ (.range t m)) := evOp_of_hop (fun _ => rfl) rfl rfl
theorem evOp_entry {it : Operand} : evOp E fr σ type (.entry it) X = give2 X (hop E.ty fr σ (.entry it)) := evOp_of_hop (fun _ => rfl) rfl rfl
def callO {P : Program} (S : MC P) (g : FuncId) (as : List AV) (σ : List AObj) (X : AV → List AObj → Prop) : Option AV → Prop
  | some v => X v σ
  | none => ACalls S g as σ X
theorem callA_eq {g : FuncId} {as : List AV} : callA E g as σ X = callO E.S g as σ X (E.fs g as) := by unfold callA callO; cases E.fs g as <;> rfl
theorem callO_none {P : Program} {S : MC P} {g : FuncId} {as : List AV} : callO S g as σ X none = ACalls S g as σ X := rfl
@[congr] theorem callA_congr {g : FuncId} {as as' : List AV} {σ σ' : List AObj} (h1 : as = as') (h2 : σ = σ') : callA E g as σ X = callA E g as' σ' X := by rw [h1, h2]
@[congr] theorem callO_congr {P : Program} {S : MC P} {g : FuncId} {as as' : List AV} {σ σ' : List AObj} {v v' : Option AV} (h1 : as = as') (h2 : σ = σ') (h3 : v = v') : callO S g as σ X v = callO S g as' σ' X v' := by rw [h1, h2, h3]
@[congr] theorem nextA_congr {σ σ' : List AObj} {v v' : Option AV} (h2 : σ = σ') (h3 : v = v') : nextA X σ v = nextA X σ' v' := by rw [h2, h3]

end ops

/-- Types, told by closed facts. -/
theorem TyOK.of {P : Program} {t : Nat} {i : TI} (d : TypeDesc) (h1 : (P.info? t).map (fun i => (i.size, i.bytes)) = some (i.sz, i.bytes)) (h2 : ((P.info? t).bind (·.zero)).bind ofVal = some i.zero) (h3 : i.zero.flat = true)
    (h4 : P.underlying t = some d) (h5 : KdOK d i.kd) : TyOK P t i := by
  refine ⟨?_, d, h4, h5⟩
  cases hi : P.info? t with
  | none => rw [hi] at h1; cases h1
  | some ti =>
    rw [hi] at h1 h2
    simp only [Option.map_some, Option.some.injEq, Prod.mk.injEq] at h1
    simp only [Option.bind_some] at h2
    cases hz : ti.zero with
    | none => rw [hz] at h2; cases h2
    | some z => rw [hz] at h2; exact ⟨ti, rfl, h1.1, h1.2, ⟨z, hz, h2⟩, h3⟩

def tyOf (l : List (Nat × TI)) (t : Nat) : TI := (l.find? (fun p => p.1 == t)).elim { sz := 0, bytes := 0, kd := .other, zero := .tup [] } (·.2)
theorem tys_of {P : Program} {l : List (Nat × TI)} (h : ∀ p ∈ l, TyOK P p.1 p.2) : TysOK P (tyOf l) := by
  intro t ht
  unfold tyOf at ht ⊢
  cases hf : l.find? (fun p => p.1 == t) with
  | none => rw [hf] at ht; exact absurd rfl ht
  | some p =>
    have h1 := h p (List.mem_of_find?_eq_some hf)
    have h2 := List.find?_some hf
    simp at h2
    subst h2
    exact h1
end Go.Mu
set_option linter.unusedSimpArgs false
set_option linter.unusedVariables false
namespace Go.Mu
open Go Go.Conc

variable {E : Env} {ro : Option Nat} {K : Kr}

def Fr.only (fr : Fr) (ns : List Nat) : Fr := ⟨fr.kp, fr.tm.filter (fun p => ns.contains p.1), fr.sl.filter (fun p => ns.contains p.1)⟩
theorem lookA_filter (ns : List Nat) (t : Nat) : ∀ l : List (Nat × AV), lookA (l.filter (fun p => ns.contains p.1)) t = if ns.contains t then lookA l t else none
  | [] => by simp [lookA]
  | (d, v) :: l => by
    have ih := lookA_filter ns t l
    by_cases hd : ns.contains d = true
    · rw [List.filter_cons_of_pos (by simpa using hd)]
      simp only [lookA]
      by_cases e : d = t
      · subst e; simp only [if_true, hd]
      · simp only [if_neg e, ih]
    · rw [List.filter_cons_of_neg (by simpa using hd)]
      simp only [lookA, ih]
      by_cases e : d = t
      · subst e; simp only [hd, if_false, Bool.false_eq_true]
      · simp only [if_neg e]
theorem Fr.get_only (fr : Fr) (ns : List Nat) (t : Nat) : (fr.only ns).get t = if ns.contains t then fr.get t else none := by
  show (if fr.kp t = true then lookA (fr.sl.filter _) t else lookA (fr.tm.filter _) t) = _
  rw [lookA_filter, lookA_filter]
  unfold Fr.get
  by_cases h : fr.kp t = true <;> by_cases g : ns.contains t = true <;> simp [h, g]

/-- Two frames look alike to these operands. -/
def Like (fr fr' : Fr) (xs : List Operand) : Prop := ∀ x ∈ xs, aeval fr x = aeval fr' x
variable {fr fr' : Fr}
theorem Like.aevals : ∀ {xs : List Operand}, Like fr fr' xs → aevals fr xs = aevals fr' xs
  | [], _ => rfl
  | x :: xs, h => by simp only [Mu.aevals, h x (by simp), Like.aevals (xs := xs) (fun y hy => h y (by simp [hy]))]
theorem Like.apart : ∀ {ps : List (Nat × Operand)}, Like fr fr' (ps.map (·.2)) → apart fr ps = apart fr' ps
  | [], _ => rfl
  | (i, x) :: ps, h => by simp only [Mu.apart, h x (by simp), Like.apart (ps := ps) (fun y hy => h y (by simp at hy ⊢; exact .inr hy))]

theorem pop_like {ty : Nat → TI} {type : TypeId} (op : Op) (h : Like fr fr' op.operands.toList) : pop ty fr type op = pop ty fr' type op := by
  cases op with
  | build t ps => simp only [pop]; rw [Like.apart (ps := ps.toList) (fun x hx => h x (by simpa [Op.operands] using hx))]
  | makeFunc f x y =>
    simp only [pop]
    rw [Like.aevals (xs := x.toList) (fun z hz => h z (by simp at hz; simp [Op.operands, hz])), Like.aevals (xs := y.toList) (fun z hz => h z (by simp at hz; simp [Op.operands, hz]))]
  | slice t x lo hi mx =>
    have hx := h x (by simp [Op.operands])
    have hlo : ∀ y, lo = some y → aeval fr y = aeval fr' y := fun y e => h y (by subst e; simp [Op.operands])
    have hhi : ∀ y, hi = some y → aeval fr y = aeval fr' y := fun y e => h y (by subst e; simp [Op.operands])
    cases lo with
    | none => cases hi with
      | none => simp only [pop, hx]
      | some y => simp only [pop, hx, hhi y rfl]
    | some z => cases hi with
      | none => simp only [pop, hx, hlo z rfl]
      | some y => simp only [pop, hx, hhi y rfl, hlo z rfl]
  | call c =>
    obtain ⟨callee, args, ats⟩ := c
    cases callee with
    | builtin b => 
      have := Like.aevals (xs := args.toList) (fun z hz => h z (by simp at hz; simp [Op.operands, Call.operands, hz]))
      cases b <;> simp only [pop, this]
    | _ => simp only [pop]
  | _ =>
    first
      | rfl
      | (simp only [Like, Op.operands, List.mem_cons, List.not_mem_nil, or_false, forall_eq_or_imp, forall_eq] at h; simp only [pop, h])
theorem lit_like {ty : Nat → TI} (op : Op) (h : Like fr fr' op.operands.toList) : litOp ty fr op = litOp ty fr' op := by
  cases op with
  | buildSlice t n ps => simp only [litOp]; rw [Like.apart (ps := ps.toList) (fun x hx => h x (by simpa [Op.operands] using hx))]
  | _ => rfl
theorem hop_like {ty : Nat → TI} {σ : List AObj} (op : Op) (h : Like fr fr' op.operands.toList) : hop ty fr σ op = hop ty fr' σ op := by
  cases op with
  | call c =>
    obtain ⟨callee, args, ats⟩ := c
    cases callee with
    | builtin b => 
      have := Like.aevals (xs := args.toList) (fun z hz => h z (by simp at hz; simp [Op.operands, Call.operands, hz]))
      cases b <;> simp only [hop, this]
    | _ => simp only [hop]
  | makeMap t m => cases m <;> rfl
  | _ =>
    first
      | rfl
      | (simp only [Like, Op.operands, List.mem_cons, List.not_mem_nil, or_false, forall_eq_or_imp, forall_eq] at h; simp only [hop, cvO, h])
theorem aop_like {σ : List AObj} {type : TypeId} (op : Op) (h : Like fr fr' op.operands.toList) : aop E fr σ type op = aop E fr' σ type op := by
  unfold aop; rw [pop_like op h, lit_like op h, hop_like op h]
theorem evOp_like {σ : List AObj} {type : TypeId} {X : AV → List AObj → Prop} (op : Op) (h : Like fr fr' op.operands.toList) : evOp E fr σ type op X = evOp E fr' σ type op X := by
  cases op with
  | call c =>
    obtain ⟨callee, args, ats⟩ := c
    cases callee with
    | builtin b => simp only [evOp, aop_like _ h]
    | value f =>
      have h1 := h f (by simp [Op.operands, Call.operands])
      have h2 := Like.aevals (xs := args.toList) (fun z hz => h z (by simp at hz; simp [Op.operands, Call.operands, hz]))
      simp only [evOp, h1, h2]
    | invoke f m =>
      have h1 := h f (by simp [Op.operands, Call.operands])
      have h2 := Like.aevals (xs := args.toList) (fun z hz => h z (by simp at hz; simp [Op.operands, Call.operands, hz]))
      simp only [evOp, h1, h2]
  | next it b =>
    have h1 := h it (by simp [Op.operands])
    simp only [evOp, h1]
  | binOp bo t x y u =>
    have h1 := h x (by simp [Op.operands])
    simp only [evOp, h1, aop_like _ h]
  | _ => simp only [evOp, aop_like _ h]
theorem wantA_like {ops : Array Oper} {o : Oper} (h : ∀ t ∈ o.looksAt ops, fr.get t = fr'.get t) : wantA ops.toList fr o.guard = wantA ops.toList fr' o.guard := by
  cases hg : o.guard with
  | none => rfl
  | some gw =>
    obtain ⟨j, want⟩ := gw
    simp only [wantA]
    cases hd : (ops.toList[j]?).bind (·.dst) with
    | none => rfl
    | some d =>
      have hd' : (ops[j]?).bind (·.dst) = some d := by simpa using hd
      have := h d (by simp [Oper.looksAt, hg, hd'])
      simp only [this]
theorem like_of {ops : Array Oper} {o : Oper} (h : ∀ t ∈ o.looksAt ops, fr.get t = fr'.get t) : Like fr fr' o.op.operands.toList := by
  intro x hx
  cases x with
  | tmp t => exact h t (List.mem_append_left _ (List.mem_filterMap.2 ⟨.tmp t, hx, rfl⟩))
  | const v => rfl
  | func f => rfl
  | global g => rfl
end Go.Mu
set_option linter.unusedSimpArgs false
set_option linter.unusedVariables false
namespace Go.Mu
open Go Go.Conc

variable {E : Env} {ro : Option Nat} {K : Kr} {n : Nat}

/-- Operations that may come up at any time: they look at their operands, or load. -/
def isN : Op → Bool
  | .move _ | .pick .. | .build .. | .buildSlice .. | .fieldAddr .. | .field .. | .index .. | .indexAddr .. | .nilCheck _ | .unOp .. | .convert ..
  | .makeInterface .. | .makeFunc .. | .extract .. | .typeAssert .. | .slice .. | .load .. => true
  | .call ⟨.builtin .len, _, _⟩ | .call ⟨.builtin .max, _, _⟩ | .call ⟨.builtin .min, _, _⟩ => true
  | .binOp _ _ _ y _ => !isNilC y
  | _ => false
def isL : Op → Bool
  | .load .. => true
  | _ => false
def isCl : Op → Bool
  | .call ⟨.value _, _, _⟩ => true
  | _ => false
/-- In a list's place: it may come up at any time: a call of a function that computes alone bears its own number. -/
def isNp (p : Nat × List Nat) (o : Oper) : Bool := isN o.op || (isCl o.op && p.2 == [p.1])
/-- A new variable: it may come up early. -/
def isA (ty : Nat → TI) (N : Nat) (o : Oper) : Bool := match o.op, o.dst with
  | .alloc t, some d => (ty t).kd.agg.isSome && decide (d < N) && o.guard.isNone
  | _, _ => false

def nms (ops : Array Oper) (o : Oper) : List Tmp := o.dst.toList ++ o.looksAt ops
def pred (m : List Nat) (j i : Nat) : Bool := (m.getD j 0).testBit i
def foldM (m : List Nat) (s : Nat) (e : Edge) : Nat := if Region.binds .any e then s ||| (2 ^ e.on ||| m.getD e.on 0) else s
def masksOK (m : List Nat) (ops : Array Oper) : Bool := (List.range ops.size).all fun j => match ops[j]? with
  | some o => m.getD j 0 == o.after.toList.foldl (foldM m) 0 && o.after.toList.all (fun e => !Region.binds .any e || decide (e.on < j))
  | none => false
def chk (ty : Nat → TI) (N : Nat) (m : List Nat) (ops : Array Oper) (p q : Nat × List Nat) : Bool :=
  match ops[p.1]?, ops[q.1]? with
  | some o, some o' =>
    p.1 != q.1 && !pred m p.1 q.1 &&
    (isA ty N o' || isNp p o || pred m q.1 p.1) &&
    (!(isNp q o' || isA ty N o') || o'.dst.toList.all (fun d => !(nms ops o).contains d)) &&
    (isNp q o' || isA ty N o' || !isNp p o || pred m q.1 p.1 || (o'.dst.toList.all (fun d => !(nms ops o).contains d) && (!isL o.op || q.2.contains p.1))) &&
    (!isNp p o || pred m q.1 p.1 || o.dst.toList.all (fun d => !(nms ops o').contains d))
  | _, _ => false
def pairs {α : Type} (f : α → α → Bool) : List α → Bool
  | [] => true
  | x :: l => l.all (f x) && pairs f l
theorem pairs_spec {α : Type} {f : α → α → Bool} : ∀ {l l' : List α}, pairs f (l ++ l') = true → ∀ p ∈ l, ∀ q ∈ l', f p q = true
  | [], _, _, _, hp => by cases hp
  | x :: l, l', h, p, hp => by
    simp only [List.cons_append, pairs, Bool.and_eq_true, List.all_eq_true] at h
    intro q hq
    rcases List.mem_cons.1 hp with rfl | hp
    · exact h.1 q (by simp [hq])
    · exact pairs_spec h.2 p hp q hq
def selfOK (ops : Array Oper) (p : Nat × List Nat) : Bool := match ops[p.1]? with
  | some o => (!(p.2 == [p.1]) || isCl o.op) && (!isNp p o || o.dst.toList.all (fun d => !(o.looksAt ops).contains d))
  | none => false
def drawOK (ty : Nat → TI) (N : Nat) (ops : Array Oper) (c : List Nat × List (Nat × List Nat)) : Bool :=
  masksOK c.1 ops && (List.range ops.size).all (fun i => c.2.any (·.1 == i)) && pairs (chk ty N c.1 ops) c.2 && c.2.all (selfOK ops)

theorem fold_testBit (m : List Nat) (i : Nat) : ∀ (l : List Edge) (s : Nat), (l.foldl (foldM m) s).testBit i = true → s.testBit i = true ∨ ∃ e ∈ l, Region.binds .any e = true ∧ (i = e.on ∨ pred m e.on i = true)
  | [], s, h => .inl h
  | e :: l, s, h => by
    rcases fold_testBit m i l _ h with h1 | ⟨e', h1, h2⟩
    · unfold foldM at h1
      split at h1
      · rename_i hb
        simp only [Nat.testBit_or, Bool.or_eq_true] at h1
        rcases h1 with h1 | h1 | h1
        · exact .inl h1
        · rw [Nat.testBit_two_pow] at h1
          exact .inr ⟨e, by simp, hb, .inl (by simpa [eq_comm] using h1)⟩
        · exact .inr ⟨e, by simp, hb, .inr h1⟩
      · exact .inl h1
    · exact .inr ⟨e', by simp [h1], h2⟩

theorem pred_in {m : List Nat} {ops : Array Oper} (hm : masksOK m ops = true) {X : Nat → Prop} (hc : ∀ j o, ops[j]? = some o → X j → ∀ e ∈ o.after, Region.binds .any e = true → X e.on) (i : Nat) :
    ∀ (j : Nat) (o : Oper), ops[j]? = some o → (∀ e ∈ o.after, Region.binds .any e = true → X e.on) → pred m j i = true → X i := by
  intro j
  induction j using Nat.strongRecOn with
  | _ j ih =>
    intro o ho hd hp
    have hj : j < ops.size := (Array.getElem?_eq_some_iff.1 ho).1
    have h1 := List.all_eq_true.1 hm j (List.mem_range.2 hj)
    simp only [ho, Bool.and_eq_true, beq_iff_eq, List.all_eq_true, Bool.or_eq_true, Bool.not_eq_true', decide_eq_true_eq] at h1
    unfold pred at hp
    rw [h1.1] at hp
    rcases fold_testBit m i _ _ hp with h2 | ⟨e, h2, h3, h4⟩
    · simp at h2
    · have he : e ∈ o.after := by simpa using h2
      rcases h4 with rfl | h4
      · exact hd e he h3
      · have hlt : e.on < j := by
          rcases h1.2 e h2 with h5 | h5
          · rw [h3] at h5; cases h5
          · exact h5
        have ho' : ops[e.on]? = some ops[e.on] := Array.getElem?_eq_getElem (by omega)
        exact ih e.on hlt _ ho' (hc _ _ ho' (hd e he h3)) h4
end Go.Mu
set_option linter.unusedSimpArgs false
set_option linter.unusedVariables false
namespace Go.Mu
open Go Go.Conc

variable {E : Env} {ro : Option Nat} {K : Kr} {n : Nat}

def nthO : List Oper → Nat → Option Oper
  | [], _ => none
  | o :: _, 0 => some o
  | _ :: l, i + 1 => nthO l i
theorem nthO_eq : ∀ (l : List Oper) (i : Nat), nthO l i = l[i]?
  | [], _ => by simp [nthO]
  | o :: _, 0 => by simp [nthO]
  | _ :: l, i + 1 => by simp [nthO, nthO_eq l i]

/-- A load says the same again. -/
def reOK (E : Env) (all : List Oper) (fr : Fr) (σ : List AObj) : Option Oper → Prop
  | none => False
  | some o => match wantA all fr o.guard with
    | some true => match hop E.ty fr σ o.op with
      | some (v, _) => match o.dst with
        | some d => fr.get d = some v
        | none => True
      | none => False
    | some false => True
    | none => False
def recheck (E : Env) (all : List Oper) (fr : Fr) (σ : List AObj) : List Nat → Prop
  | [] => True
  | r :: rs => reOK E all fr σ (nthO all r) ∧ recheck E all fr σ rs

/-- A call of a function that computes alone. -/
def callP (E : Env) (f : Option AV) (as : Option (List AV)) : Option AV := match f, as with
  | some (.fn (.func g) p q), some as => E.fs g (p ++ as ++ q)
  | _, _ => none
def valP (E : Env) (fr : Fr) : Op → Option AV
  | .call ⟨.value f, args, _⟩ => callP E (aeval fr f) (aevals fr args.toList)
  | _ => none
def givP (X : AV → List AObj → Prop) (σ : List AObj) : Option AV → Prop
  | some v => X v σ
  | none => False
def evPc (E : Env) (fr : Fr) (σ : List AObj) (op : Op) (X : AV → List AObj → Prop) : Prop := givP X σ (valP E fr op)
theorem givP_some {X : AV → List AObj → Prop} {σ : List AObj} {v : AV} : givP X σ (some v) = X v σ := rfl
theorem callP_some {E : Env} {g : FuncId} {p q as : List AV} : callP E (some (.fn (.func g) p q)) (some as) = E.fs g (p ++ as ++ q) := rfl
def evD (E : Env) (all : List Oper) : List (Nat × List Nat) → Fr → List AObj → (Fr → List AObj → Prop) → Prop
  | [], fr, σ, Q => Q fr σ
  | p :: L, fr, σ, Q =>
    let next : Option Tmp → AV → List AObj → Prop := fun dst v σ' => match dst with
      | none => recheck E all fr σ' p.2 ∧ evD E all L fr σ' Q
      | some d => d < E.N ∧ recheck E all (fr.put d v) σ' p.2 ∧ evD E all L (fr.put d v) σ' Q
    let pure : Option Tmp → AV → List AObj → Prop := fun dst v σ' => match dst with
      | none => recheck E all fr σ' [] ∧ evD E all L fr σ' Q
      | some d => d < E.N ∧ recheck E all (fr.put d v) σ' [] ∧ evD E all L (fr.put d v) σ' Q
    match p.2 == [p.1], nthO all p.1 with
    | true, some o => match wantA all fr o.guard with
      | none => False
      | some b => (b = true → evPc E fr σ o.op (pure o.dst)) ∧ (b = false → pure o.dst (.tup []) σ)
    | false, some o => match wantA all fr o.guard with
      | none => False
      | some b => (b = true → evOp E fr σ o.type o.op (next o.dst)) ∧ (b = false → next o.dst (.tup []) σ)
    | _, none => False
def evNextD (E : Env) (all : List Oper) (rs : List Nat) (L : List (Nat × List Nat)) (dst : Option Tmp) (fr : Fr) (Q : Fr → List AObj → Prop) (v : AV) (σ : List AObj) : Prop :=
  match dst with
  | none => recheck E all fr σ rs ∧ evD E all L fr σ Q
  | some d => d < E.N ∧ recheck E all (fr.put d v) σ rs ∧ evD E all L (fr.put d v) σ Q
def evDo (E : Env) (all : List Oper) (rs : List Nat) (L : List (Nat × List Nat)) (fr : Fr) (σ : List AObj) (Q : Fr → List AObj → Prop) : Option Oper → Prop
  | none => False
  | some o => match wantA all fr o.guard with
    | none => False
    | some b => (b = true → evOp E fr σ o.type o.op (evNextD E all rs L o.dst fr Q)) ∧ (b = false → evNextD E all rs L o.dst fr Q (.tup []) σ)
def evDp (E : Env) (all : List Oper) (L : List (Nat × List Nat)) (fr : Fr) (σ : List AObj) (Q : Fr → List AObj → Prop) : Option Oper → Prop
  | none => False
  | some o => match wantA all fr o.guard with
    | none => False
    | some b => (b = true → evPc E fr σ o.op (evNextD E all [] L o.dst fr Q)) ∧ (b = false → evNextD E all [] L o.dst fr Q (.tup []) σ)
def evDs (E : Env) (all : List Oper) (rs : List Nat) (L : List (Nat × List Nat)) (fr : Fr) (σ : List AObj) (Q : Fr → List AObj → Prop) (o : Option Oper) : Bool → Prop
  | true => evDp E all L fr σ Q o
  | false => evDo E all rs L fr σ Q o
theorem evDs_true {all : List Oper} {rs : List Nat} {L : List (Nat × List Nat)} {fr : Fr} {σ : List AObj} {Q : Fr → List AObj → Prop} {o : Option Oper} : evDs E all rs L fr σ Q o true = evDp E all L fr σ Q o := rfl
theorem evDs_false {all : List Oper} {rs : List Nat} {L : List (Nat × List Nat)} {fr : Fr} {σ : List AObj} {Q : Fr → List AObj → Prop} {o : Option Oper} : evDs E all rs L fr σ Q o false = evDo E all rs L fr σ Q o := rfl
theorem evD_cons (all : List Oper) (i : Nat) (rs : List Nat) (L : List (Nat × List Nat)) (fr : Fr) (σ : List AObj) (Q : Fr → List AObj → Prop) : evD E all ((i, rs) :: L) fr σ Q = evDs E all rs L fr σ Q (nthO all i) (rs == [i]) := by
  simp only [evD]
  cases hb : rs == [i] with
  | true =>
    cases nthO all i with
    | none => rfl
    | some o =>
      simp only [evDs, evDp]
      cases wantA all fr o.guard with
      | none => rfl
      | some b => cases h : o.dst <;> rfl
  | false =>
    cases nthO all i with
    | none => rfl
    | some o =>
      simp only [evDs, evDo]
      cases wantA all fr o.guard with
      | none => rfl
      | some b => cases h : o.dst <;> rfl
/-- What one that may come up at any time gives. -/
def nop (E : Env) (fr : Fr) (σ : List AObj) (type : TypeId) (op : Op) : Option (AV × List AObj) := match isCl op with
  | true => (valP E fr op).map fun v => (v, σ)
  | false => aop E fr σ type op
theorem isN_cl {op : Op} (h : isN op = true) : isCl op = false := by
  cases op with
  | call c =>
    obtain ⟨callee, args, ats⟩ := c
    cases callee <;> simp [isN] at h <;> rfl
  | _ => rfl
theorem isNp_cases {p : Nat × List Nat} {o : Oper} (h : isNp p o = true) : (isCl o.op = false ∧ isN o.op = true) ∨ (isCl o.op = true ∧ p.2 = [p.1]) := by
  simp only [isNp, Bool.or_eq_true, Bool.and_eq_true, beq_iff_eq] at h
  rcases h with h | h
  · exact .inl ⟨isN_cl h, h⟩
  · exact .inr h

/-- Of operations that may come up at any time. -/
theorem aop_N {fr : Fr} {σ σ' : List AObj} {type : TypeId} {op : Op} {v : AV} (hn : isN op = true) (h : aop E fr σ type op = some (v, σ')) : σ' = σ := by
  unfold aop at h
  split at h
  · simp at h; exact h.2.symm
  · split at h
    · simp at h; exact h.2.symm
    · cases op with
      | load t x =>
        simp only [hop] at h
        split at h
        · split at h
          · simp only [Option.map_eq_some_iff, Prod.mk.injEq] at h
            obtain ⟨_, _, _, h⟩ := h; exact h.symm
          · cases h
        · simp only [Option.map_eq_some_iff, Prod.mk.injEq] at h
          obtain ⟨_, _, _, h⟩ := h; exact h.symm
        · split at h
          · split at h
            · unfold loadV at h
              split at h
              · simp only [Option.map_eq_some_iff, Prod.mk.injEq] at h
                obtain ⟨_, _, _, h⟩ := h; exact h.symm
              · cases h
            · cases h
          · cases h
        · cases h
      | call c =>
        obtain ⟨callee, args, ats⟩ := c
        cases callee with
        | builtin b => cases b <;> simp [isN] at hn <;> simp [hop] at h
        | _ => simp [isN] at hn
      | convert s d x =>
        simp only [hop, Option.map_eq_some_iff, Prod.mk.injEq] at h
        obtain ⟨_, _, _, h⟩ := h; exact h.symm
      | _ => first | (simp [isN] at hn; done) | (simp [hop] at h; done)
/-- One that loads nothing does not look at the objects. -/
theorem aop_pure {fr : Fr} {σ σ' : List AObj} {type : TypeId} {op : Op} {v : AV} (hn : isN op = true) (hl : isL op = false) (h : aop E fr σ type op = some (v, σ)) : aop E fr σ' type op = some (v, σ') := by
  by_cases hcv : ∃ s d x, op = .convert s d x
  · obtain ⟨s, d, x, rfl⟩ := hcv
    unfold aop at h ⊢
    cases h1 : pop E.ty fr type (.convert s d x) with
    | some u => rw [h1] at h; simp only [Option.some.injEq, Prod.mk.injEq, and_true] at h ⊢; exact h
    | none =>
      rw [h1] at h
      simp only [litOp, hop, Option.map_eq_some_iff, Prod.mk.injEq] at h ⊢
      obtain ⟨u, h1, rfl, _⟩ := h
      exact ⟨u, h1, rfl, trivial⟩
  have hh : ∀ σ, hop E.ty fr σ op = none := by
    intro σ
    cases op with
    | convert s d x => exact absurd ⟨s, d, x, rfl⟩ hcv
    | load t x => simp [isL] at hl
    | call c =>
      obtain ⟨callee, args, ats⟩ := c
      cases callee with
      | builtin b => cases b <;> simp [isN] at hn <;> simp [hop]
      | _ => simp [isN] at hn
    | _ => first | (simp [isN] at hn; done) | (simp [hop]; done)
  unfold aop at h ⊢
  cases h1 : pop E.ty fr type op with
  | some u => rw [h1] at h; simp only [Option.some.injEq, Prod.mk.injEq, and_true] at h ⊢; exact h
  | none =>
    rw [h1] at h
    simp only at h ⊢
    cases h2 : litOp E.ty fr op with
    | some u => rw [h2] at h; simp only [Option.some.injEq, Prod.mk.injEq, and_true] at h ⊢; exact h
    | none => rw [h2] at h; simp only [hh] at h; cases h
theorem aop_load {fr : Fr} {σ : List AObj} {type : TypeId} {op : Op} (hl : isL op = true) : aop E fr σ type op = hop E.ty fr σ op := by
  cases op <;> simp [isL] at hl
  rfl
theorem hget_more {σ : List AObj} {x o : AObj} {r : Nat} (hg : hget σ r = some o) : hget (σ ++ [x]) r = some o := by
  unfold hget at hg ⊢
  rw [List.getElem?_append_left (List.getElem?_eq_some_iff.1 hg).1]; exact hg
/-- A load finds the same when there are more objects. -/
theorem aop_more {fr : Fr} {σ : List AObj} {x : AObj} {type : TypeId} {op : Op} {v : AV} (hn : isN op = true) (h : aop E fr σ type op = some (v, σ)) : aop E fr (σ ++ [x]) type op = some (v, σ ++ [x]) := by
  cases hl : isL op with
  | false => exact aop_pure hn hl h
  | true =>
    rw [aop_load hl] at h ⊢
    cases op with
    | load t y =>
      simp only [hop] at h ⊢
      split at h
      · split at h
        · rename_i cs hg
          have hg' := hget_more (x := x) hg
          rw [hg']
          simp only [Option.map_eq_some_iff, Prod.mk.injEq] at h ⊢
          obtain ⟨u, h1, h2, _⟩ := h
          exact ⟨u, h1, h2, trivial⟩
        · cases h
      · simp only [Option.map_eq_some_iff, Prod.mk.injEq] at h ⊢
        obtain ⟨u, h1, h2, _⟩ := h
        exact ⟨u, h1, h2, trivial⟩
      · split at h
        · rename_i xs hg
          have hg' := hget_more (x := x) hg
          rw [hg']
          split at h
          · rename_i hc
            simp only [if_pos hc]
            unfold loadV at h ⊢
            split at h
            · simp only [Option.map_eq_some_iff, Prod.mk.injEq] at h ⊢
              obtain ⟨u, h1, h2, _⟩ := h
              exact ⟨u, h1, h2, trivial⟩
            · cases h
          · cases h
        · cases h
      · cases h
    | _ => simp [isL] at hl
theorem evOp_N {fr : Fr} {σ : List AObj} {type : TypeId} {op : Op} {X : AV → List AObj → Prop} (hn : isN op = true) (h : evOp E fr σ type op X) : ∃ v, aop E fr σ type op = some (v, σ) ∧ X v σ := by
  have key : (match aop E fr σ type op with | some (v, σ') => X v σ' | none => False) → ∃ v, aop E fr σ type op = some (v, σ) ∧ X v σ := by
    intro hk
    cases ha : aop E fr σ type op with
    | none => rw [ha] at hk; exact hk.elim
    | some q =>
      obtain ⟨v, σ'⟩ := q
      rw [ha] at hk
      have e := aop_N hn ha
      exact ⟨v, by rw [e], by rw [← e]; exact hk⟩
  cases op with
  | call c =>
    obtain ⟨callee, args, ats⟩ := c
    cases callee with
    | builtin b => exact key h
    | _ => simp [isN] at hn
  | next it b => simp [isN] at hn
  | binOp bo t x y u =>
    have hy : isNilC y = false := by simpa [isN] using hn
    simp only [evOp, hy] at h
    exact key h
  | _ => exact key h

theorem isL_cl {op : Op} (h : isL op = true) : isCl op = false := by cases op <;> simp [isL] at h <;> rfl
theorem nop_N {fr : Fr} {σ σ' : List AObj} {type : TypeId} {op : Op} {v : AV} (hn : isCl op = true ∨ isN op = true) (h : nop E fr σ type op = some (v, σ')) : σ' = σ := by
  unfold nop at h
  cases hc : isCl op with
  | true =>
    rw [hc] at h
    simp only [Option.map_eq_some_iff, Prod.mk.injEq] at h
    obtain ⟨_, _, _, h⟩ := h; exact h.symm
  | false =>
    rw [hc] at h hn
    exact aop_N (by simpa using hn) h
theorem nop_pure {fr : Fr} {σ σ' : List AObj} {type : TypeId} {op : Op} {v : AV} (hn : isCl op = true ∨ isN op = true) (hl : isL op = false) (h : nop E fr σ type op = some (v, σ)) : nop E fr σ' type op = some (v, σ') := by
  unfold nop at h ⊢
  cases hc : isCl op with
  | true =>
    rw [hc] at h
    simp only [Option.map_eq_some_iff, Prod.mk.injEq] at h ⊢
    obtain ⟨u, h1, h2, _⟩ := h
    exact ⟨u, h1, h2, trivial⟩
  | false =>
    rw [hc] at h hn
    exact aop_pure (by simpa using hn) hl h
theorem nop_load {fr : Fr} {σ : List AObj} {type : TypeId} {op : Op} (hl : isL op = true) : nop E fr σ type op = hop E.ty fr σ op := by
  unfold nop; rw [isL_cl hl]; exact aop_load hl
theorem nop_more {fr : Fr} {σ : List AObj} {x : AObj} {type : TypeId} {op : Op} {v : AV} (hn : isCl op = true ∨ isN op = true) (h : nop E fr σ type op = some (v, σ)) : nop E fr (σ ++ [x]) type op = some (v, σ ++ [x]) := by
  unfold nop at h ⊢
  cases hc : isCl op with
  | true =>
    rw [hc] at h
    simp only [Option.map_eq_some_iff, Prod.mk.injEq] at h ⊢
    obtain ⟨u, h1, h2, _⟩ := h
    exact ⟨u, h1, h2, trivial⟩
  | false =>
    rw [hc] at h hn
    exact aop_more (by simpa using hn) h
theorem nop_like {fr fr' : Fr} {σ : List AObj} {type : TypeId} (op : Op) (h : Like fr fr' op.operands.toList) : nop E fr σ type op = nop E fr' σ type op := by
  unfold nop
  rw [aop_like op h]
  have : valP E fr op = valP E fr' op := by
    cases op with
    | call c =>
      obtain ⟨callee, args, ats⟩ := c
      cases callee with
      | value f =>
        have h1 := h f (by simp [Op.operands, Call.operands])
        have h2 := Like.aevals (xs := args.toList) (fun z hz => h z (by simp at hz; simp [Op.operands, Call.operands, hz]))
        simp only [valP, h1, h2]
      | _ => rfl
    | _ => rfl
  rw [this]
theorem isNp_or {p : Nat × List Nat} {o : Oper} (h : isNp p o = true) : isCl o.op = true ∨ isN o.op = true := by
  rcases isNp_cases h with h | h
  · exact .inr h.2
  · exact .inl h.1
/-- What is at hand in a list, of one that may come up at any time. -/
theorem evD_N {p : Nat × List Nat} {all : List Oper} {L : List (Nat × List Nat)} {fr : Fr} {σ : List AObj} {Q : Fr → List AObj → Prop} {o : Oper} (hn : isNp p o = true) (ho : nthO all p.1 = some o) (h : evD E all (p :: L) fr σ Q) :
    ∃ b v rs, wantA all fr o.guard = some b ∧ (b = true → nop E fr σ o.type o.op = some (v, σ)) ∧ (b = false → v = .tup []) ∧ evNextD E all rs L o.dst fr Q v σ := by
  obtain ⟨i, rs⟩ := p
  rw [evD_cons, ho] at h
  rcases isNp_cases hn with ⟨hc, hn⟩ | ⟨hc, hp⟩
  · have key : evDo E all rs L fr σ Q (some o) ∨ evDp E all L fr σ Q (some o) := by
      cases hb : rs == [i] with
      | true => rw [hb] at h; exact .inr h
      | false => rw [hb] at h; exact .inl h
    rcases key with h | h
    · simp only [evDo] at h
      cases hw : wantA all fr o.guard with
      | none => rw [hw] at h; exact h.elim
      | some b =>
        rw [hw] at h
        cases b with
        | false => exact ⟨false, _, rs, rfl, fun h => (by cases h), fun _ => rfl, h.2 rfl⟩
        | true =>
          obtain ⟨v, h1, h2⟩ := evOp_N hn (h.1 rfl)
          exact ⟨true, v, rs, rfl, fun _ => (by unfold nop; rw [hc]; exact h1), fun h => (by cases h), h2⟩
    · simp only [evDp] at h
      cases hw : wantA all fr o.guard with
      | none => rw [hw] at h; exact h.elim
      | some b =>
        rw [hw] at h
        cases b with
        | false => exact ⟨false, _, [], rfl, fun h => (by cases h), fun _ => rfl, h.2 rfl⟩
        | true =>
          exfalso
          have h := h.1 rfl
          unfold evPc at h
          have : valP E fr o.op = none := by
            cases hop : o.op with
            | call c =>
              obtain ⟨callee, args, ats⟩ := c
              rw [hop] at hc
              cases callee <;> simp [isCl] at hc <;> rfl
            | _ => rfl
          rw [this] at h; exact h
  · simp only at hp
    have hb : (rs == [i]) = true := by simp [hp]
    rw [hb] at h
    simp only [evDs, evDp] at h
    cases hw : wantA all fr o.guard with
    | none => rw [hw] at h; exact h.elim
    | some b =>
      rw [hw] at h
      cases b with
      | false => exact ⟨false, _, [], rfl, fun h => (by cases h), fun _ => rfl, h.2 rfl⟩
      | true =>
        have h := h.1 rfl
        unfold evPc at h
        cases hv : valP E fr o.op with
        | none => rw [hv] at h; exact h.elim
        | some v =>
          rw [hv] at h
          exact ⟨true, v, [], rfl, fun _ => (by unfold nop; rw [hc]; simp only; rw [hv]; rfl), fun h => (by cases h), h⟩
/-- What is at hand in a list, of another one. -/
theorem evD_E {p : Nat × List Nat} {all : List Oper} {L : List (Nat × List Nat)} {fr : Fr} {σ : List AObj} {Q : Fr → List AObj → Prop} {o : Oper} (hn : isNp p o = false) (hs : p.2 = [p.1] → isCl o.op = true) (ho : nthO all p.1 = some o) (h : evD E all (p :: L) fr σ Q) : evDo E all p.2 L fr σ Q (some o) := by
  obtain ⟨i, rs⟩ := p
  rw [evD_cons, ho] at h
  cases hb : rs == [i] with
  | false => rw [hb] at h; exact h
  | true =>
    have hc := hs (by simpa using hb)
    simp only [isNp, hc, hb, Bool.true_and, Bool.or_true] at hn
    cases hn
/-- A block that is there already becomes an object's. -/
theorem R.adopt {σ : List AObj} {w : World} (h : R K σ w) {b : Nat} {cs : List AV} {cc : Array Value} {T : TypeId} (hb : w.heap[b]? = some (.cells cc T (0, 0))) (hv : VRs K σ.length cs cc.toList) (h1 : ∀ c ∈ cc.toList, c.oneCell' = true)
    (hf : Free K σ b) (hS : ∀ p, K.S b p = none) (hlay : ∀ g cs, layV g = some cs → g ≠ b) : R (K.setφ σ.length b) (σ ++ [.cells cs]) w ∧ ∀ b', b' ≠ b → Free K σ b' → Free (K.setφ σ.length b) (σ ++ [.cells cs]) b' := by
  have he : Ext σ.length K (K.setφ σ.length b) := Ext.setφ K _ _
  have hlt : ∀ {r o}, σ[r]? = some o → r < σ.length := fun h => (List.getElem?_eq_some_iff.1 h).1
  have hget : ∀ q o', (σ ++ [.cells cs])[q]? = some o' → σ[q]? = some o' ∨ (q = σ.length ∧ o' = .cells cs) := fun q o' hq => by
    rw [List.getElem?_append] at hq
    split at hq
    · exact .inl hq
    · cases hk : q - σ.length with
      | zero => rw [hk] at hq; simp at hq; exact .inr ⟨by omega, hq.symm⟩
      | succ j => rw [hk] at hq; simp at hq
  have hnew : ∀ b', ObjBlk (K.setφ σ.length b) σ.length (.cells cs) b' → b' = b := fun b' hb' => by simpa [ObjBlk, Kr.setφ] using hb'
  have hfr : ∀ b', b' ≠ b → Free K σ b' → Free (K.setφ σ.length b) (σ ++ [.cells cs]) b' := fun b' hne hfree q o' hq hb' => by
    rcases hget q o' hq with g | ⟨rfl, rfl⟩
    · exact hfree q o' g (hb'.ext (hlt g) he (h.obj q o' g))
    · exact hne (hnew b' hb')
  refine ⟨⟨fun b p v hv => h.stab b p v hv, fun q o' hq => ?_, fun q q' o1 o2 b' h1 h2 b1 b2 => ?_, fun g cs hg => ⟨(h.lay g cs hg).1, hfr g (hlay g cs hg) (h.lay g cs hg).2⟩⟩, hfr⟩
  · rcases hget q o' hq with g | ⟨rfl, rfl⟩
    · exact (h.obj q o' g).mono (hlt g) he (by simp) rfl fun b _ => ⟨rfl, fun _ => rfl⟩
    · exact ⟨cc, T, by simp only [Kr.setφ, if_true]; exact hb, hv.mono he (by simp), h1, fun p => by simp only [Kr.setφ, if_true]; exact hS p⟩
  · rcases hget q o1 h1 with g1 | ⟨rfl, rfl⟩ <;> rcases hget q' o2 h2 with g2 | ⟨rfl, rfl⟩
    · exact h.inj q q' o1 o2 b' g1 g2 (b1.ext (hlt g1) he (h.obj q o1 g1)) (b2.ext (hlt g2) he (h.obj q' o2 g2))
    · have := hnew b' b2; subst this
      exact absurd (b1.ext (hlt g1) he (h.obj q o1 g1)) (hf q o1 g1)
    · have := hnew b' b1; subst this
      exact absurd (b2.ext (hlt g2) he (h.obj q' o2 g2)) (hf q' o2 g2)
    · rfl

end Go.Mu
