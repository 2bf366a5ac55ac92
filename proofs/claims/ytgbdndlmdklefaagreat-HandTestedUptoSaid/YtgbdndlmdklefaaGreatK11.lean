/- Part W of the abstract layer: code is walked by rewriting. -/
import Derived.Test.YtgbdndlmdklefaaGreatK10
import Derived.RangeFuncIn
set_option linter.unusedSimpArgs false
set_option linter.unusedVariables false
namespace Go.Mu
open Go Go.Conc

variable {E : Env} {ro : Option Nat} {K : Kr}

def ev (E : Env) (ro : Option Nat) : Nat → List Item → Fr → List AObj → Post → Prop
  | 0, todo, fr, σ, Q => ARun E ro todo fr σ Q
  | _ + 1, [], fr, σ, Q => Q none fr σ
  | n + 1, .inBlock _ :: k, fr, σ, Q => ev E ro n k fr σ Q
  | n + 1, .inScope _ :: k, fr, σ, Q => ev E ro n k fr σ Q
  | n + 1, .code c :: k, fr, σ, Q =>
    match c with
    | .skip => ev E ro n k fr σ Q
    | .label _ => ev E ro n k fr σ Q
    | .seq x y => ev E ro n (.code x :: .code y :: k) fr σ Q
    | .block id x => ev E ro n (.code x :: .inBlock id :: k) fr σ Q
    | .scope x => ev E ro n (.code x :: .inScope x :: k) fr σ Q
    | .cond c x y => match aeval fr c with
      | some (.bool t) => (t = true → ev E ro n (.code x :: k) fr σ Q) ∧ (t = false → ev E ro n (.code y :: k) fr σ Q)
      | _ => False
    | .exit id => match exitTo id k with
      | some k' => ev E ro n k' fr σ Q
      | none => Q (some (.exit id)) fr σ
    | .goto l => match gotoIn l k with
      | some k' => ev E ro n k' fr σ Q
      | none => False
    | .ret => Q (some .ret) fr σ
    | .region id ops draw => if draw then evD E ops.toList (E.ord id).2 fr.anew σ (ev E ro n k · · Q) else evOps E ops.toList ops.toList fr.anew σ (ev E ro n k · · Q)
    | c => ARun E ro (.code c :: k) fr.anew σ Q
  | _ + 1, todo, fr, σ, Q => ARun E ro todo fr.anew σ Q

/-- The orders given for the statements whose order is drawn are good ones. -/
def codeOK (E : Env) : Code → Bool
  | .region id ops draw => !draw || drawOK E.ty E.N ops (E.ord id)
  | .seq a b => codeOK E a && codeOK E b
  | .cond _ a b => codeOK E a && codeOK E b
  | .block _ a => codeOK E a
  | .loop a => codeOK E a
  | .scope a => codeOK E a
  | .rangeFunc _ _ a b => codeOK E a && codeOK E b
  | _ => true
def itemOK (E : Env) : Item → Bool
  | .code c => codeOK E c
  | .inLoop c => codeOK E c
  | .inScope c => codeOK E c
  | _ => true
def todoOK (E : Env) (todo : List Item) : Bool := todo.all (itemOK E)
theorem todoOK_cons {i : Item} {k : List Item} : todoOK E (i :: k) = (itemOK E i && todoOK E k) := rfl
theorem exitTo_OK {id : Nat} : ∀ {k k' : List Item}, exitTo id k = some k' → todoOK E k = true → todoOK E k' = true
  | [], _, h, _ => by simp [exitTo] at h
  | i :: k, k', h, hk => by
    rw [todoOK_cons, Bool.and_eq_true] at hk
    cases i with
    | inBlock id' =>
      simp only [exitTo] at h
      split at h
      · simp at h; subst h; exact hk.2
      · exact exitTo_OK h hk.2
    | _ => simp only [exitTo] at h; exact exitTo_OK (k := k) h hk.2
theorem findLabel_OK {l : Nat} : ∀ {c c' : Code}, findLabel c l = some c' → codeOK E c = true → codeOK E c' = true := by
  intro c
  induction c with
  | seq a b iha ihb =>
    intro c' h hc
    simp only [codeOK, Bool.and_eq_true] at hc
    simp only [findLabel] at h
    split at h
    · rename_i r hr
      simp at h; subst h
      simp only [codeOK, Bool.and_eq_true]
      exact ⟨iha hr hc.1, hc.2⟩
    · exact ihb h hc.2
  | label l' =>
    intro c' h hc
    simp only [findLabel] at h
    split at h
    · simp at h; subst h; rfl
    · cases h
  | _ => intro c' h hc; simp [findLabel] at h
theorem gotoIn_OK {l : Nat} : ∀ {k k' : List Item}, gotoIn l k = some k' → todoOK E k = true → todoOK E k' = true
  | [], _, h, _ => by simp [gotoIn] at h
  | i :: k, k', h, hk => by
    have hk0 := hk
    rw [todoOK_cons, Bool.and_eq_true] at hk
    cases i with
    | inScope c =>
      simp only [gotoIn] at h
      split at h
      · rename_i r hr
        simp at h; subst h
        rw [todoOK_cons, Bool.and_eq_true]
        exact ⟨findLabel_OK hr hk.1, hk0⟩
      · exact gotoIn_OK h hk.2
    | _ => simp only [gotoIn] at h; exact gotoIn_OK (k := k) h hk.2

theorem evD_mono {all : List Oper} {Q Q' : Fr → List AObj → Prop} (hq : ∀ fr σ, Q fr σ → Q' fr σ) : ∀ {L : List (Nat × List Nat)} {fr : Fr} {σ : List AObj}, evD E all L fr σ Q → evD E all L fr σ Q'
  | [], fr, σ, h => hq _ _ h
  | (i, rs) :: L, fr, σ, h => by
    rw [evD_cons] at h ⊢
    have hn : ∀ rs dst v σ', evNextD E all rs L dst fr Q v σ' → evNextD E all rs L dst fr Q' v σ' := fun rs dst v σ' h => by
      unfold evNextD at h ⊢
      split at h
      · exact ⟨h.1, evD_mono hq h.2⟩
      · exact ⟨h.1, h.2.1, evD_mono hq h.2.2⟩
    cases hb : rs == [i] with
    | true =>
      rw [hb] at h
      cases ho : nthO all i with
      | none => rw [ho] at h; exact h
      | some o =>
        rw [ho] at h
        simp only [evDs, evDp] at h ⊢
        cases hw : wantA all fr o.guard with
        | none => rw [hw] at h; exact h.elim
        | some b =>
          rw [hw] at h
          refine ⟨fun hb => ?_, fun hb => hn _ _ _ _ (h.2 hb)⟩
          have h := h.1 hb
          unfold evPc givP at h ⊢
          cases hv : valP E fr o.op with
          | none => rw [hv] at h; exact h
          | some v => rw [hv] at h; exact hn _ _ _ _ h
    | false =>
      rw [hb] at h
      cases ho : nthO all i with
      | none => rw [ho] at h; exact h
      | some o =>
        rw [ho] at h
        simp only [evDs, evDo] at h ⊢
        cases hw : wantA all fr o.guard with
        | none => rw [hw] at h; exact h.elim
        | some b =>
          rw [hw] at h
          exact ⟨fun hb => evOp_mono (hn _ _) (h.1 hb), fun hb => hn _ _ _ _ (h.2 hb)⟩

theorem ev_sound (hE : EnvOK E) {Q : Post} : ∀ {n : Nat} {todo : List Item} {fr : Fr} {σ : List AObj}, todoOK E todo = true → ev E ro n todo fr σ Q → ARun E ro todo fr σ Q
  | 0, todo, fr, σ, _, h => h
  | n + 1, [], fr, σ, _, h => .leave .nil h
  | n + 1, i :: k, fr, σ, ho, h => by
    cases i with
    | inBlock _ => exact .inBlock (ev_sound hE (by rw [todoOK_cons, Bool.and_eq_true] at ho; exact ho.2) h)
    | inScope _ => exact .inScope (ev_sound hE (by rw [todoOK_cons, Bool.and_eq_true] at ho; exact ho.2) h)
    | code c =>
      rw [todoOK_cons, Bool.and_eq_true] at ho
      obtain ⟨hc, hk⟩ := ho
      cases c with
      | skip => exact .skip (ev_sound hE hk h)
      | label _ => exact .label (ev_sound hE hk h)
      | seq x y =>
        simp only [itemOK, codeOK, Bool.and_eq_true] at hc
        exact .seq (ev_sound hE (by simp only [todoOK_cons, itemOK, hc.1, hc.2, hk, Bool.and_self]) h)
      | block id x => exact .block (ev_sound hE (by rw [todoOK_cons, todoOK_cons, Bool.and_eq_true, Bool.and_eq_true]; exact ⟨hc, rfl, hk⟩) h)
      | scope x => exact .scope (ev_sound hE (by rw [todoOK_cons, todoOK_cons, Bool.and_eq_true, Bool.and_eq_true]; exact ⟨hc, hc, hk⟩) h)
      | cond c x y =>
        simp only [itemOK, codeOK, Bool.and_eq_true] at hc
        simp only [ev] at h
        split at h
        · rename_i t hcc
          refine .cond hcc ?_
          cases t
          · exact ev_sound hE (by rw [todoOK_cons, Bool.and_eq_true]; exact ⟨hc.2, hk⟩) (h.2 rfl)
          · exact ev_sound hE (by rw [todoOK_cons, Bool.and_eq_true]; exact ⟨hc.1, hk⟩) (h.1 rfl)
        · exact h.elim
      | exit id =>
        simp only [ev] at h
        split at h
        · rename_i k' hk'; exact .exit hk' (ev_sound hE (exitTo_OK hk' hk) h)
        · rename_i hk'; exact .leave (.exit id k hk') h
      | goto l =>
        simp only [ev] at h
        split at h
        · rename_i k' hk'; exact .goto hk' (ev_sound hE (gotoIn_OK hk' hk) h)
        · exact h.elim
      | ret => exact .leave (.ret k) h
      | region id ops draw =>
        simp only [ev] at h
        split at h
        · rename_i hd
          simp only [itemOK, codeOK, hd, Bool.not_true, Bool.false_or] at hc
          subst hd
          exact .anew (.drawn hE _ hc (evD_mono (fun fr σ h => ev_sound hE hk h) h))
        · rename_i hd
          simp at hd; subst hd
          exact .anew (.region hE (evOps_mono (fun fr σ h => ev_sound hE hk h) h))
      | loop x => exact .anew h
      | rangeFunc f p x y => exact .anew h
      | refuse w => exact .anew h
    | _ => exact .anew h

/-- The rest behind a statement. -/
def evK (E : Env) (ro : Option Nat) (n : Nat) (k : List Item) (Q : Post) (fr : Fr) (σ : List AObj) : Prop := ev E ro n k fr σ Q

section rules
variable {n : Nat} {k : List Item} {fr : Fr} {σ : List AObj} {Q : Post}
theorem evK_eq : evK E ro n k Q fr σ = ev E ro n k fr σ Q := rfl
theorem ev_nil : ev E ro (n + 1) [] fr σ Q = Q none fr σ := rfl
theorem ev_inBlock {id : Nat} : ev E ro (n + 1) (.inBlock id :: k) fr σ Q = ev E ro n k fr σ Q := rfl
theorem ev_inScope {c : Code} : ev E ro (n + 1) (.inScope c :: k) fr σ Q = ev E ro n k fr σ Q := rfl
theorem ev_inLoop {c : Code} : ev E ro (n + 1) (.inLoop c :: k) fr σ Q = ARun E ro (.inLoop c :: k) fr.anew σ Q := rfl
theorem ev_skip : ev E ro (n + 1) (.code .skip :: k) fr σ Q = ev E ro n k fr σ Q := rfl
theorem ev_label {l : Nat} : ev E ro (n + 1) (.code (.label l) :: k) fr σ Q = ev E ro n k fr σ Q := rfl
theorem ev_seq {x y : Code} : ev E ro (n + 1) (.code (.seq x y) :: k) fr σ Q = ev E ro n (.code x :: .code y :: k) fr σ Q := rfl
theorem ev_block {id : Nat} {x : Code} : ev E ro (n + 1) (.code (.block id x) :: k) fr σ Q = ev E ro n (.code x :: .inBlock id :: k) fr σ Q := rfl
theorem ev_scope {x : Code} : ev E ro (n + 1) (.code (.scope x) :: k) fr σ Q = ev E ro n (.code x :: .inScope x :: k) fr σ Q := rfl
theorem ev_cond {c : Operand} {x y : Code} : ev E ro (n + 1) (.code (.cond c x y) :: k) fr σ Q = match aeval fr c with
      | some (.bool t) => (t = true → ev E ro n (.code x :: k) fr σ Q) ∧ (t = false → ev E ro n (.code y :: k) fr σ Q)
      | _ => False := rfl
theorem ev_exit {id : Nat} : ev E ro (n + 1) (.code (.exit id) :: k) fr σ Q = match exitTo id k with
      | some k' => ev E ro n k' fr σ Q
      | none => Q (some (.exit id)) fr σ := rfl
theorem ev_goto {l : Nat} : ev E ro (n + 1) (.code (.goto l) :: k) fr σ Q = match gotoIn l k with
      | some k' => ev E ro n k' fr σ Q
      | none => False := rfl
theorem ev_ret : ev E ro (n + 1) (.code .ret :: k) fr σ Q = Q (some .ret) fr σ := rfl
theorem ev_region {id : Nat} {ops : List Oper} : ev E ro (n + 1) (.code (.region id ops.toArray false) :: k) fr σ Q = evOps E ops ops fr.anew σ (evK E ro n k Q) := rfl
theorem ev_loop {c : Code} : ev E ro (n + 1) (.code (.loop c) :: k) fr σ Q = ARun E ro (.code (.loop c) :: k) fr.anew σ Q := rfl

theorem exitTo_block {id id' : Nat} : exitTo id (.inBlock id' :: k) = if id' = id then some k else exitTo id k := by
  simp [exitTo, beq_iff_eq]
theorem exitTo_code {id : Nat} {c : Code} : exitTo id (.code c :: k) = exitTo id k := rfl
theorem exitTo_loop {id : Nat} {c : Code} : exitTo id (.inLoop c :: k) = exitTo id k := rfl
theorem exitTo_scope {id : Nat} {c : Code} : exitTo id (.inScope c :: k) = exitTo id k := rfl
theorem exitTo_nil {id : Nat} : exitTo id [] = none := rfl

theorem ev_draw {id : Nat} {ops : List Oper} : ev E ro (n + 1) (.code (.region id ops.toArray true) :: k) fr σ Q = evD E ops (E.ord id).2 fr.anew σ (evK E ro n k Q) := rfl
@[congr] theorem ev_congr {n : Nat} {todo : List Item} {fr fr' : Fr} {σ σ' : List AObj} {Q : Post} (h1 : fr = fr') (h2 : σ = σ') : ev E ro n todo fr σ Q = ev E ro n todo fr' σ' Q := by rw [h1, h2]
@[congr] theorem evK_congr {k : List Item} {Q : Post} {fr fr' : Fr} {σ σ' : List AObj} (h1 : fr = fr') (h2 : σ = σ') : evK E ro n k Q fr σ = evK E ro n k Q fr' σ' := by rw [h1, h2]
end rules

section draws
variable {all : List Oper} {fr : Fr} {σ : List AObj} {Q : Fr → List AObj → Prop} {L : List (Nat × List Nat)} {rs : List Nat}
theorem evD_nil : evD E all [] fr σ Q = Q fr σ := rfl
@[congr] theorem evD_congr {fr' : Fr} {σ' : List AObj} {L L' : List (Nat × List Nat)} (h0 : L = L') (h1 : fr = fr') (h2 : σ = σ') : evD E all L fr σ Q = evD E all L' fr' σ' Q := by rw [h0, h1, h2]
@[congr] theorem evDo_congr {fr' : Fr} {σ' : List AObj} {o o' : Option Oper} (h0 : o = o') (h1 : fr = fr') (h2 : σ = σ') : evDo E all rs L fr σ Q o = evDo E all rs L fr' σ' Q o' := by rw [h0, h1, h2]
@[congr] theorem evNextD_congr {dst : Option Tmp} {fr fr' : Fr} {v v' : AV} {σ σ' : List AObj} (h1 : fr = fr') (h2 : v = v') (h3 : σ = σ') : evNextD E all rs L dst fr Q v σ = evNextD E all rs L dst fr' Q v' σ' := by rw [h1, h2, h3]
@[congr] theorem nthO_congr {i : Nat} : nthO all i = nthO all i := rfl
@[congr] theorem recheck_congr {fr' : Fr} {σ' : List AObj} (h1 : fr = fr') (h2 : σ = σ') : recheck E all fr σ rs = recheck E all fr' σ' rs := by rw [h1, h2]
@[congr] theorem reOK_congr {fr' : Fr} {σ' : List AObj} {o o' : Option Oper} (h0 : o = o') (h1 : fr = fr') (h2 : σ = σ') : reOK E all fr σ o = reOK E all fr' σ' o' := by rw [h0, h1, h2]
theorem nthO_zero {o : Oper} {l : List Oper} : nthO (o :: l) 0 = some o := rfl
theorem nthO_succ {o : Oper} {l : List Oper} {i : Nat} : nthO (o :: l) (i + 1) = nthO l i := rfl
theorem recheck_nil : recheck E all fr σ [] = True := rfl
theorem recheck_cons {r : Nat} : recheck E all fr σ (r :: rs) = (reOK E all fr σ (nthO all r) ∧ recheck E all fr σ rs) := rfl
theorem reOK_plain {d : Tmp} {op : Op} {type : TypeId} {pos : String} {after : Array Edge} : reOK E all fr σ (some ⟨some d, op, type, pos, after, none⟩) = give2 (fun v _ => fr.get d = some v) (hop E.ty fr σ op) := by
  simp only [reOK, wantA]
  cases hop E.ty fr σ op with
  | none => rfl
  | some q => rfl
theorem evDo_plain {dst : Option Tmp} {op : Op} {type : TypeId} {pos : String} {after : Array Edge} : evDo E all rs L fr σ Q (some ⟨dst, op, type, pos, after, none⟩) = evOp E fr σ type op (evNextD E all rs L dst fr Q) := by
  simp [evDo, wantA]
theorem evPc_call {f : Operand} {args : Array Operand} {ats : Array TypeId} {X : AV → List AObj → Prop} : evPc E fr σ (.call ⟨.value f, args, ats⟩) X = givP X σ (callP E (aeval fr f) (aevals fr args.toList)) := rfl
def isSelf : List Nat → Nat → Bool
  | [j], i => j == i
  | _, _ => false
theorem isSelf_nil {i : Nat} : isSelf [] i = false := rfl
theorem isSelf_one {i j : Nat} : isSelf [j] i = (j == i) := rfl
theorem isSelf_two {i a b : Nat} {l : List Nat} : isSelf (a :: b :: l) i = false := rfl
theorem isSelf_eq {i : Nat} : ∀ {l : List Nat}, (l == [i]) = isSelf l i
  | [] => rfl
  | [j] => by simp [isSelf]
  | a :: b :: l => by simp [isSelf]
theorem evD_consW {i : Nat} {rs : List Nat} {L : List (Nat × List Nat)} : evD E all ((i, rs) :: L) fr σ Q = evDs E all rs L fr σ Q (nthO all i) (isSelf rs i) := by rw [evD_cons, isSelf_eq]
theorem evDo_guard {dst : Option Tmp} {op : Op} {type : TypeId} {pos : String} {after : Array Edge} {j : Nat} {want : Bool} : evDo E all rs L fr σ Q (some ⟨dst, op, type, pos, after, some (j, want)⟩) =
    match dstOf all j with
    | none => False
    | some d => match fr.get d with
      | some (.bool b) => (b = want → evOp E fr σ type op (evNextD E all rs L dst fr Q)) ∧ (b = !want → evNextD E all rs L dst fr Q (.tup []) σ)
      | some (.tup []) => evNextD E all rs L dst fr Q (.tup []) σ
      | _ => False := by
  simp only [evDo, wantA, dstOf_eq]
  cases dstOf all j with
  | none => rfl
  | some d =>
    simp only
    cases h : fr.get d with
    | none => rfl
    | some v =>
      cases v with
      | bool b => cases b <;> cases want <;> simp
      | tup vs => cases vs <;> simp
      | _ => rfl
theorem evNextD_none {v : AV} : evNextD E all rs L none fr Q v σ = (recheck E all fr σ rs ∧ evD E all L fr σ Q) := rfl
theorem evNextD_some {d : Tmp} {v : AV} : evNextD E all rs L (some d) fr Q v σ = (d < E.N ∧ recheck E all (fr.put d v) σ rs ∧ evD E all L (fr.put d v) σ Q) := rfl
end draws

/-- What a function gives back. -/
def giveR (Q : AV → List AObj → Prop) (σ : List AObj) : Option (List AV) → Prop
  | some vs => Q (oneOf vs) σ
  | none => False
def retPost (E : Env) (rs : List ResultVar) (Q : AV → List AObj → Prop) : Post := fun j fr σ => (j = none ∨ j = some .ret) ∧ giveR Q σ (resAs E fr σ rs)
section rets
variable {rs : List ResultVar} {Q : AV → List AObj → Prop} {fr : Fr} {σ : List AObj}
theorem retPost_ret : retPost E rs Q (some .ret) fr σ = giveR Q σ (resAs E fr σ rs) := by simp [retPost]
theorem retPost_none : retPost E rs Q none fr σ = giveR Q σ (resAs E fr σ rs) := by simp [retPost]
@[congr] theorem retPost_congr {j j' : Option Code} {fr fr' : Fr} {σ σ' : List AObj} (h0 : j = j') (h1 : fr = fr') (h2 : σ = σ') : retPost E rs Q j fr σ = retPost E rs Q j' fr' σ' := by rw [h0, h1, h2]
theorem giveR_some {vs : List AV} : giveR Q σ (some vs) = Q (oneOf vs) σ := rfl
theorem oneOf_one {v : AV} : oneOf [v] = v := rfl
theorem oneOf_nil : oneOf [] = .tup [] := rfl
theorem oneOf_more {u v : AV} {vs : List AV} : oneOf (u :: v :: vs) = .tup (u :: v :: vs) := rfl
end rets

/-- A CALL, FROM THE WALK OF THE BODY. -/
theorem ACalls.of_ev (hE : EnvOK E) {f : FuncId} {fn : Func} {c : Code} {args : List AV} {σ : List AObj} {Q : AV → List AObj → Prop} (kp : Nat → Bool) (hf : E.P.funcs[f]? = some fn) (hb : fn.body = some c) (hN : fn.ntmps = E.N) (hA : args.length ≤ E.N)
    (hC : Callable E.P f) (hO : todoOK E [.code c] = true)
    (h : ev E none 100000 [.code c] ⟨kp, [], number 0 args⟩ σ (retPost E fn.results.toList Q)) : ACalls E.S f args σ Q := by
  refine ACalls.of_run hE kp hf hb hN hA hC ((ev_sound hE hO h).mono fun j fr σ' ⟨h1, h2⟩ => ⟨h1, ?_⟩)
  cases hr : resAs E fr σ' fn.results.toList with
  | none => rw [hr] at h2; exact h2.elim
  | some vs => rw [hr] at h2; exact ⟨vs, rfl, h2⟩

/-- Fewer slots known. -/
def subF : List (Nat × AV) → List (Nat × AV) → Prop
  | [], _ => True
  | (d, v) :: l, sl => lookA sl d = some v ∧ subF l sl
theorem subF_look {sl : List (Nat × AV)} : ∀ {l : List (Nat × AV)}, subF l sl → ∀ t v, lookA l t = some v → lookA sl t = some v
  | [], _, t, v, h => by simp [lookA] at h
  | (d, u) :: l, hs, t, v, h => by
    simp only [lookA] at h
    by_cases e : d = t
    · subst e; rw [if_pos rfl] at h; simp at h; subst h; exact hs.1
    · rw [if_neg e] at h; exact subF_look hs.2 t v h
theorem ARun.sub {kp : Nat → Bool} {tm sl sl' : List (Nat × AV)} {todo : List Item} {σ : List AObj} {Q : Post} (h : ARun E ro todo ⟨kp, [], sl'⟩ σ Q) (hs : subF sl' sl) : ARun E ro todo ⟨kp, tm, sl⟩ σ Q :=
  fun M hM K w V a b cs hb hR hO hF => h M hM K w V a b cs hb hR hO (hF.sub fun t v hv => by
    have hv' : (if kp t = true then lookA sl' t else lookA [] t) = some v := hv
    show (if kp t = true then lookA sl t else lookA tm t) = some v
    by_cases hk : kp t = true
    · rw [if_pos hk] at hv' ⊢; exact subF_look hs t v hv'
    · rw [if_neg hk] at hv'; cases hv')
/-- Lists of integers. -/
def ints (t : Tok) (xs : List Int) : AV := .list t 1 (xs.map (AV.int .i64))
theorem idx_map {α : Type} {f : α → AV} {l : List α} {i : Nat} (h : i < l.length) : idx (l.map f) (i : Int) = some (f l[i]) := by
  unfold idx
  rw [if_pos (by omega)]
  simp [h]
end Go.Mu
set_option linter.unusedSimpArgs false
set_option linter.unusedVariables false
namespace Go.Mu
open Go Go.Conc

/-- A value that names objects below a bound alone. -/
inductive Lt (n : Nat) : AV → Prop
  | bool (b : Bool) : Lt n (.bool b)
  | int (k : IntKind) (i : Int) : Lt n (.int k i)
  | str (s : ByteArray) : Lt n (.str s)
  | ptr (r off : Nat) (h : r < n) : Lt n (.ptr r off)
  | nilptr : Lt n .nilptr
  | eptr (cs : List AV) (off : Nat) (h : ∀ j (hj : j < cs.length), Lt n (cs[j])) : Lt n (.eptr cs off)
  | list (t : Tok) (sz : Nat) (xs : List AV) (ht : ∀ id, t = .own id → id < n)
      (h : ∀ i j (hi : i < xs.length) (hj : j < (xs[i]).cells.length), Lt n ((xs[i]).cells[j])) : Lt n (.list t sz xs)
  | arr (r off len : Nat) (h : r < n) : Lt n (.arr r off len)
  | vec (r len : Nat) (h : r < n) : Lt n (.vec r len)
  | vptr (r m sz i off : Nat) (h : r < n) : Lt n (.vptr r m sz i off)
  | map (r : Nat) (h : r < n) : Lt n (.map r)
  | nilmap : Lt n .nilmap
  | fn (f : Fn) (first cap : List AV) (g1 : ∀ i (h : i < first.length), Lt n (first[i])) (g2 : ∀ i (h : i < cap.length), Lt n (cap[i])) : Lt n (.fn f first cap)
  | yield (r : Nat) (h : r < n) : Lt n (.yield r)
  | nilfn : Lt n .nilfn
  | iface (t : TypeId) (v : AV) (h : Lt n v) : Lt n (.iface t v)
  | niliface : Lt n .niliface
  | agg (cs : List AV) (h : ∀ i (h : i < cs.length), Lt n (cs[i])) : Lt n (.agg cs)
  | tup (cs : List AV) (h : ∀ i (h : i < cs.length), Lt n (cs[i])) : Lt n (.tup cs)
  | chan (c : Option Nat) : Lt n (.chan c)

theorem VR.lt {K : Kr} {n : Nat} {v : AV} {c : Value} (h : VR K n v c) : Lt n v := by
  induction h with
  | bool b => exact .bool b
  | int k i => exact .int k i
  | str s => exact .str s
  | ptr r off h => exact .ptr r off h
  | nilptr => exact .nilptr
  | eptr cs off b o f hS h1 _ ih => exact .eptr cs off ih
  | list t sz xs a cap f hl ht ha hs h1 _ ih => exact .list t sz xs (fun id e => by subst e; exact ht.1) ih
  | arr r off len a cap h hl ha => exact .arr r off len h
  | vec r len a cap h hl ht ha => exact .vec r len h
  | vptr r m sz i off b o cap h ht => exact .vptr r m sz i off h
  | map r h => exact .map r h
  | nilmap => exact .nilmap
  | fn f first cap first' cap' h1 h2 _ _ i1 i2 => exact .fn f first cap (fun i h => i1 i h (by omega)) (fun i h => i2 i h (by omega))
  | yield r h => exact .yield r h
  | nilfn => exact .nilfn
  | iface t v c _ ih => exact .iface t v ih
  | niliface => exact .niliface
  | agg cs cs' hl h1 _ ih => exact .agg cs fun i h => ih i h (by omega)
  | tup cs cs' hl _ ih => exact .tup cs fun i h => ih i h (by omega)
  | chan c => exact .chan c

theorem VR.down {K : Kr} {n n' : Nat} {v : AV} {c : Value} (h : VR K n' v c) (h0 : Lt n v) : VR K n v c := by
  induction h with
  | bool b => exact .bool b
  | int k i => exact .int k i
  | str s => exact .str s
  | ptr r off h => cases h0 with | ptr _ _ h0 => exact .ptr r off h0
  | nilptr => exact .nilptr
  | eptr cs off b o f hS h1 _ ih => cases h0 with | eptr _ _ h0 => exact .eptr cs off b o f hS h1 fun j hj => ih j hj (h0 j hj)
  | list t sz xs a cap f hl ht ha hs h1 _ ih =>
    cases h0 with
    | list _ _ _ h2 h0 =>
      exact .list t sz xs a cap f hl (by
        cases t with
        | no => trivial
        | full => exact ht
        | own id => exact ⟨h2 id rfl, ht.2⟩) ha hs h1 fun i j hi hj => ih i j hi hj (h0 i j hi hj)
  | arr r off len a cap h hl ha => cases h0 with | arr _ _ _ h0 => exact .arr r off len a cap h0 hl ha
  | vec r len a cap h hl ht ha => cases h0 with | vec _ _ h0 => exact .vec r len a cap h0 hl ht ha
  | vptr r m sz i off b o cap h ht => cases h0 with | vptr _ _ _ _ _ h0 => exact .vptr r m sz i off b o cap h0 ht
  | map r h => cases h0 with | map _ h0 => exact .map r h0
  | nilmap => exact .nilmap
  | fn f first cap first' cap' h1 h2 _ _ i1 i2 => cases h0 with | fn _ _ _ g1 g2 => exact .fn f first cap first' cap' h1 h2 (fun i h h' => i1 i h h' (g1 i h)) (fun i h h' => i2 i h h' (g2 i h))
  | yield r h => cases h0 with | yield _ h0 => exact .yield r h0
  | nilfn => exact .nilfn
  | iface t v c _ ih => cases h0 with | iface _ _ h0 => exact .iface t v c (ih h0)
  | niliface => exact .niliface
  | agg cs cs' hl h1 _ ih => cases h0 with | agg _ h0 => exact .agg cs cs' hl h1 fun i h h' => ih i h h' (h0 i h)
  | tup cs cs' hl _ ih => cases h0 with | tup _ h0 => exact .tup cs cs' hl fun i h h' => ih i h h' (h0 i h)
  | chan c => exact .chan c

theorem ObjR.down {K0 K : Kr} {n n' : Nat} {w0 w : World} {r : Nat} {o : AObj} (h0 : ObjR K0 n w0 r o) (h : ObjR K n' w r o) : ObjR K n w r o := by
  cases o with
  | cells cs =>
    obtain ⟨cc, E, h1, h2, h3, h4⟩ := h
    obtain ⟨cc0, E0, _, g2, _⟩ := h0
    exact ⟨cc, E, h1, ⟨h2.1, fun i a b => (h2.2 i a b).down (g2.2 i a (by have := g2.1; omega)).lt⟩, h3, h4⟩
  | tail m sz => exact h
  | vec sz xs =>
    obtain ⟨a, cap, h1, h2, h3, h4, h5⟩ := h
    obtain ⟨a0, cap0, g1, g2, _, _, g5⟩ := h0
    have ltv : ∀ i (h : i < (xs.flatMap AV.cells).length), Lt n (xs.flatMap AV.cells)[i] := fun i hi => by
      have hx : 0 < xs.length := by
        rcases Nat.eq_zero_or_pos xs.length with e | e
        · rw [List.length_eq_zero_iff.1 e] at hi; simp at hi
        · exact e
      obtain ⟨_, _, _, _, _, _, _, k4, _⟩ := g5 (by omega)
      exact (k4.2 i hi (by rw [← k4.1]; exact hi)).lt
    refine ⟨a, cap, h1, h2, h3, h4, fun hc => ?_⟩
    obtain ⟨b, o, cc, E, k1, k2, k3, k4, k5, k6⟩ := h5 hc
    exact ⟨b, o, cc, E, k1, k2, k3, ⟨k4.1, fun i a b => (k4.2 i a b).down (ltv i a)⟩, k5, k6⟩
  | map es =>
    obtain ⟨es', clock, h1, h2, h3, h4⟩ := h
    obtain ⟨es0, clock0, _, g2, _, g4⟩ := h0
    refine ⟨es', clock, h1, h2, h3, fun i a b => ?_⟩
    obtain ⟨k1, k2, k3⟩ := h4 i a b
    obtain ⟨l1, l2, _⟩ := g4 i a (by omega)
    exact ⟨k1.down l1.lt, k2.down l2.lt, k3⟩
  | iter m c s =>
    obtain ⟨m', h1, h2⟩ := h
    obtain ⟨m0, _, g2⟩ := h0
    refine ⟨m', h1, ?_⟩
    cases m with
    | none => exact h2
    | some q => exact ⟨g2.1, h2.2⟩
  | siter s p => exact h
  | loop st pend fn params assign body N fr =>
    obtain ⟨l, h1, h2, h3, h4, h5, h6, h7, h8⟩ := h
    obtain ⟨l0, _, _, _, _, _, _, _, g8⟩ := h0
    refine ⟨l, h1, h2, h3, h4, h5, h6, h7, h8.1, fun t v hv => ?_⟩
    obtain ⟨c, k1, k2⟩ := h8.2 t v hv
    obtain ⟨c0, _, l2⟩ := g8.2 t v hv
    exact ⟨c, k1, k2.down l2.lt⟩
  | dead => trivial

/-- A call's dead objects are dropped. -/
theorem R.drop {K0 K : Kr} {σ junk : List AObj} {w0 w : World} (h0 : R K0 σ w0) (h : R K (σ ++ junk) w) {Sh V0 V : Nat → Prop} (hS : StepV V0 K0 σ w0 V K (σ ++ junk) w) (hO : OwnV Sh V K (σ ++ junk) w) : R K σ w ∧ StepV V0 K0 σ w0 V K σ w ∧ OwnV Sh V K σ w := by
  have hlt : ∀ {r o}, σ[r]? = some o → r < σ.length := fun h => (List.getElem?_eq_some_iff.1 h).1
  have hget : ∀ r o, σ[r]? = some o → (σ ++ junk)[r]? = some o := fun r o hr => by rw [List.getElem?_append_left (hlt hr)]; exact hr
  refine ⟨⟨h.stab, fun r o hr => (h0.obj r o hr).down (h.obj r o (hget r o hr)), fun r r' o o' b h1 h2 => h.inj r r' o o' b (hget r o h1) (hget r' o' h2), fun g cs hg => ⟨(h.lay g cs hg).1, fun r o hr => (h.lay g cs hg).2 r o (hget r o hr)⟩⟩, ?_⟩
  refine ⟨⟨hS.ext, Nat.le_refl _, hS.size, fun b hb hv hf => by
    obtain ⟨m1, m2, m3⟩ := hS.keep b hb hv hf
    exact ⟨m1, fun r o hr => m2 r o (hget r o hr), m3⟩, hS.sub, hS.new, hS.os, hS.tape, hS.output⟩, ?_⟩
  exact ⟨fun b hb => hO.obj b fun hf => hb fun r o hr => hf r o (hget r o hr), hO.stab, hO.lay, hO.sh⟩

/-- Less is known of a value. -/
def Weak (v v' : AV) : Prop := ∀ K n c, VR K n v c → VR K n v' c
theorem Weak.refl (v : AV) : Weak v v := fun _ _ _ h => h
theorem Weak.agg {cs cs' : List AV} (hl : cs.length = cs'.length) (h : ∀ i (h : i < cs.length) (h' : i < cs'.length), Weak (cs[i]) (cs'[i])) : Weak (.agg cs) (.agg cs') := fun K n c hv => by
  cases hv with
  | agg _ cc hl' h1 h2 => exact .agg cs' cc (by omega) h1 fun i a b => h i (by omega) a K n _ (h2 i (by omega) b)
theorem Weak.tup {cs cs' : List AV} (hl : cs.length = cs'.length) (h : ∀ i (h : i < cs.length) (h' : i < cs'.length), Weak (cs[i]) (cs'[i])) : Weak (.tup cs) (.tup cs') := fun K n c hv => by
  cases hv with
  | tup _ cc hl' h2 => exact .tup cs' cc (by omega) fun i a b => h i (by omega) a K n _ (h2 i (by omega) b)

/-- A CALL THAT LEAVES THE OBJECTS AS THEY WERE. -/
theorem ACalls.clean {P : Program} {S : MC P} {f : FuncId} {args : List AV} {σ : List AObj} {Q : AV → List AObj → Prop} (h : ACalls S f args σ fun v σ' => ∃ v' junk, σ' = σ ++ junk ∧ Weak v v' ∧ Lt σ.length v' ∧ Q v' σ) : ACalls S f args σ Q := by
  refine ⟨h.1, fun M hM K w V cargs kd cs hR hO hV => M.bind (h.2 M hM K w V cargs kd cs hR hO hV) ?_⟩
  rintro g' w' V' ⟨fr, v, σ', K', h1, h2, h3, h4, ⟨v', junk, rfl, hw, hlt, hq⟩, hR', hO', hS⟩
  obtain ⟨r1, r2, r3⟩ := hR.drop hR' hS hO'
  refine M.ret ⟨fr, v', σ, K', h1, h2, h3, ⟨h4.mode, h4.defers, ?_⟩, hq, r1, r3, r2⟩
  obtain ⟨fn, k1, k2⟩ := h4.fn
  refine ⟨fn, k1, fun w₁ hr => ?_⟩
  obtain ⟨c, k3, k4, k5⟩ := k2 w₁ hr
  exact ⟨c, k3, (hw _ _ _ k4).down hlt, k5⟩

/-- A step of the mind: the objects are looked at in another way. -/
theorem ARun.mind {E : Env} {ro : Option Nat} {todo : List Item} {fr fr' : Fr} {σ σ' : List AObj} {Q : Post} (h : ARun E ro todo fr' σ' Q)
    (hm : ∀ (K : Kr) (w : World) (tmps : Array Value), R K σ w → FR K σ.length E.N fr tmps → ∃ K', R K' σ' w ∧ FR K' σ'.length E.N fr' tmps ∧ Step K σ w K' σ' w) : ARun E ro todo fr σ Q := by
  intro M hM K w V a b cs hb hR hO hF
  obtain ⟨K', h1, h2, h3⟩ := hm K w a.tmps hR hF
  exact ARun.go (h M hM) (hb.mono h3.ext h3.len) h1 (hO.mind hR h1 h3) h2 (.of_mind h3) rfl

/-- An empty list without spare room becomes a list of our own. -/
theorem ARun.ghost {E : Env} {ro : Option Nat} {todo : List Item} {kp : Nat → Bool} {tm sl : List (Nat × AV)} {σ : List AObj} {Q : Post} (d sz : Nat) {sz0 : Nat} (hd : kp d = true) (hl : lookA sl d = some (.list .full sz0 []))
    (h : ARun E ro todo ⟨kp, [], ins sl d (.list (.own σ.length) sz [])⟩ (σ ++ [.tail 0 sz]) Q) : ARun E ro todo ⟨kp, tm, sl⟩ σ Q := by
  refine h.mind fun K w tmps hR hF => ?_
  obtain ⟨c, hc, hv⟩ := hF.2 d (.list .full sz0 []) (by show (if kp d = true then lookA sl d else lookA tm d) = _; rw [if_pos hd]; exact hl)
  cases hv with
  | list _ _ _ a cap f hl' ht ha hs h1 hh =>
    have hcap : cap = 0 := ht
    subst hcap
    let K' : Kr := { K with tl := fun q => if q = σ.length then fun m => if m = 0 then some (a, 0) else none else K.tl q }
    have he : Ext σ.length K K' := ⟨fun _ _ => rfl, fun r hr m x hx => by
      show (if r = σ.length then _ else K.tl r) m = some x
      rw [if_neg (by omega)]; exact hx, fun _ _ _ h => h⟩
    have htl : K'.tl σ.length = fun m => if m = 0 then some (a, 0) else none := by
      show (if σ.length = σ.length then _ else _) = _
      rw [if_pos rfl]
    obtain ⟨r1, r2⟩ := hR.ghostAt (σ' := σ ++ [.tail 0 sz]) σ.length (.tail 0 sz) K' he (by simp) (by simp) (fun q o' hq hg => by
      rw [List.getElem?_append] at hg
      split at hg
      · exact hg
      · cases hk : q - σ.length with
        | zero => omega
        | succ j => rw [hk] at hg; simp at hg) (fun q hq => by show (if q = σ.length then _ else K.tl q) = _; rw [if_neg hq]) rfl (fun b hb => by
      obtain ⟨a', cap', g1, g2, _⟩ := hb
      rw [htl] at g1; simp at g1; omega) ⟨a, 0, by rw [htl]; rfl, Nat.le_refl _, fun k hk => by rw [htl]; simp; omega, fun h => by omega⟩
    refine ⟨K', r1, ⟨hF.1, fun t v hv => ?_⟩, r2⟩
    have hv' : (if kp t = true then lookA (ins sl d (.list (.own σ.length) sz [])) t else lookA [] t) = some v := hv
    by_cases hk : kp t = true
    · rw [if_pos hk, lookA_ins] at hv'
      by_cases e : d = t
      · subst e
        rw [if_pos rfl] at hv'; simp at hv'; subst hv'
        refine ⟨_, hc, ?_⟩
        exact .list (.own σ.length) sz [] a 0 f (Nat.le_refl _) ⟨by simp, by rw [htl]; rfl⟩ (fun h => absurd rfl h) (fun i hi => by simp at hi) (fun i j hi => by simp at hi) (fun i j hi => by simp at hi)
      · rw [if_neg e] at hv'
        obtain ⟨c', k1, k2⟩ := hF.2 t v (by show (if kp t = true then lookA sl t else lookA tm t) = _; rw [if_pos hk]; exact hv')
        exact ⟨c', k1, k2.mono he (by simp)⟩
    · rw [if_neg hk] at hv'; cases hv'

theorem hset_hset {σ : List AObj} {r : Nat} {a b : AObj} : hset (hset σ r a) r b = hset σ r b := by unfold hset; simp
theorem hset_same {σ : List AObj} {r : Nat} {x : AObj} (h : hget σ r = some x) : hset σ r x = σ := by
  unfold hget at h; unfold hset
  obtain ⟨h1, h2⟩ := List.getElem?_eq_some_iff.1 h
  rw [← h2]; exact List.set_getElem_self h1
theorem hget_set {σ : List AObj} {r : Nat} {x : AObj} (h : hget σ r = some x) (o : AObj) : hget (hset σ r o) r = some o := by
  unfold hget at h; unfold hget hset
  have := (List.getElem?_eq_some_iff.1 h).1
  simp [this]
theorem hget_ne {σ : List AObj} {r q : Nat} {o : AObj} (h : r ≠ q) : hget (hset σ r o) q = hget σ q := by
  unfold hget hset; rw [List.getElem?_set_ne h]
theorem length_hset {σ : List AObj} {r : Nat} {o : AObj} : (hset σ r o).length = σ.length := by unfold hset; simp

theorem hget_at0 {σ l : List AObj} : hget (σ ++ l) σ.length = l[0]? := by unfold hget; rw [List.getElem?_append_right (by omega)]; simp
theorem hget_at {σ l : List AObj} {k : Nat} : hget (σ ++ l) (σ.length + k) = l[k]? := by unfold hget; rw [List.getElem?_append_right (by omega)]; simp
theorem hset_at0 {σ l : List AObj} {o : AObj} : hset (σ ++ l) σ.length o = σ ++ l.set 0 o := by unfold hset; rw [List.set_append_right _ _ (by omega)]; simp
theorem hset_at {σ l : List AObj} {k : Nat} {o : AObj} : hset (σ ++ l) (σ.length + k) o = σ ++ l.set k o := by unfold hset; rw [List.set_append_right _ _ (by omega)]; simp
end Go.Mu
set_option linter.unusedSimpArgs false
set_option linter.unusedVariables false
namespace Go.Mu
open Go Go.Conc

variable {E : Env} {σ : List AObj} {Q : Post}

theorem cell_of_loop {w : World} {b p : Nat} {l : Loop} (h : w.heap[b]? = some (.loop l)) : w.cell? ⟨b, p, none⟩ = none := by simp [World.cell?, h]

/-- The record of a loop is turned. -/
theorem R.turnLoop {K : Kr} {w : World} (hR : R K σ w) {r : Nat} {st : LoopState} {pend : Option Code} {fn : FuncId} {ps : Array Tmp} {as body : Code} {N : Nat} {fr : Fr} (hg : hget σ r = some (.loop st pend fn ps as body N fr)) :
    ∃ l : Loop, w.heap[K.φ r]? = some (.loop l) ∧ l.state = st ∧ l.pending = pend ∧ l.fn = fn ∧ l.params = ps ∧ l.assign = as ∧ l.body = body ∧ FR K σ.length N fr l.tmps ∧
      (∀ st' pend', R K (hset σ r (.loop st' pend' fn ps as body N fr)) { w with heap := w.heap.setIfInBounds (K.φ r) (.loop { l with state := st', pending := pend' }) } ∧
        Step K σ w K (hset σ r (.loop st' pend' fn ps as body N fr)) { w with heap := w.heap.setIfInBounds (K.φ r) (.loop { l with state := st', pending := pend' }) }) ∧
      (∀ l', R K (hset σ r .dead) { w with heap := w.heap.setIfInBounds (K.φ r) (.loop l') } ∧ Step K σ w K (hset σ r .dead) { w with heap := w.heap.setIfInBounds (K.φ r) (.loop l') }) := by
  have hr : r < σ.length := (List.getElem?_eq_some_iff.1 hg).1
  obtain ⟨l, h1, h2, h3, h4, h5, h6, h7, h8⟩ := hR.obj r _ hg
  have hlt := lt_of_heap h1
  have hS : ∀ p, K.S (K.φ r) p = none := fun p => by
    cases hk : K.S (K.φ r) p with
    | none => rfl
    | some v => have := hR.stab _ _ _ hk; rw [cell_of_loop h1] at this; cases this
  have hother : ∀ (o : Obj) b, b ≠ K.φ r → ({ w with heap := w.heap.setIfInBounds (K.φ r) o } : World).heap[b]? = w.heap[b]? := fun o b hb => by
    show (w.heap.setIfInBounds (K.φ r) o)[b]? = _
    rw [Array.getElem?_setIfInBounds_ne (Ne.symm hb)]
  have hself : ∀ (o : Obj), ({ w with heap := w.heap.setIfInBounds (K.φ r) o } : World).heap[K.φ r]? = some o := fun o => by
    show (w.heap.setIfInBounds (K.φ r) o)[K.φ r]? = _
    simp [hlt]
  refine ⟨l, h1, h2, h3, h4, h5, h6, h7, h8, fun st' pend' => ?_, fun l' => ?_⟩
  · exact hR.turn hg (K.φ r) rfl K (.refl _ _) (fun _ _ => rfl) (fun b hb => hother _ b hb) (by simp) (fun _ _ _ => rfl) (fun p v hv => by rw [hS p] at hv; cases hv) (fun b hb => hb)
      ⟨_, hself _, rfl, rfl, h4, h5, h6, h7, h8⟩ rfl rfl rfl (by rw [hself, h1]; rfl)
  · exact hR.turn hg (K.φ r) rfl K (.refl _ _) (fun _ _ => rfl) (fun b hb => hother _ b hb) (by simp) (fun _ _ _ => rfl) (fun p v hv => by rw [hS p] at hv; cases hv) (fun b hb => hb.elim) trivial rfl rfl rfl (by rw [hself, h1]; rfl)

theorem run_getLoop {P : Program} {w : World} {b : Nat} {l : Loop} (h : w.heap[b]? = some (.loop l)) : (Instr.getLoop b).run P w = .ok l w := by
  simp [Instr.getLoop, getObj, Sem.run, h]
theorem run_setLoop {P : Program} {w : World} {b : Nat} {l : Loop} (o : Obj) (h : w.heap[b]? = some (.loop l)) : (setObj b o).run P w = .ok () { w with heap := w.heap.setIfInBounds b o } := by
  simp [setObj, Sem.run, h]
theorem run_beginRound {P : Program} {w : World} {b : Nat} {l : Loop} (h : w.heap[b]? = some (.loop l)) (hs : l.state = .ready) :
    (Instr.beginRound b).run P w = .ok () { w with heap := w.heap.setIfInBounds b (.loop { l with state := .busy }) } := by
  simp [Instr.beginRound, Sem.run_bind, run_getLoop h, run_setLoop _ h, Result.andThen_ok, hs]
theorem run_endRound {P : Program} {w : World} {b : Nat} {l : Loop} (h : w.heap[b]? = some (.loop l)) (j : Option Code) :
    (Instr.endRound b j).run P w = .ok (.bool j.isNone) { w with heap := w.heap.setIfInBounds b (.loop { l with state := if j.isNone then .ready else .done, pending := j }) } := by
  simp [Instr.endRound, Sem.run_bind, run_getLoop h, run_setLoop _ h, Result.andThen_ok]
theorem run_endLoop {P : Program} {w : World} {b : Nat} {l : Loop} (h : w.heap[b]? = some (.loop l)) (hs : l.state ≠ .busy) :
    (Instr.endLoop b).run P w = .ok l.pending { w with heap := w.heap.setIfInBounds b (.loop { l with state := .exhausted }) } := by
  simp [Instr.endLoop, Sem.run_bind, run_getLoop h, run_setLoop _ h, Result.andThen_ok]
  intro hb; exact absurd hb hs

/-- What yield's arguments do to the slots. -/
def frIn : Fr → List Tmp → List AV → Fr
  | fr, t :: ts, v :: vs => frIn (fr.put t v) ts vs
  | fr, _, _ => fr
theorem frIn_sound {K : Kr} {n N : Nat} : ∀ {ts : List Tmp} {vs : List AV} {cs : List Value} {fr : Fr} {tmps : Array Value}, (∀ t ∈ ts, t < N) → VRs K n vs cs → FR K n N fr tmps → FR K n N (frIn fr ts vs) ((ts.zip cs).foldl (fun tmps p => tmps.setIfInBounds p.1 p.2) tmps)
  | [], _, _, _, _, _, _, h => h
  | t :: ts, [], cs, fr, tmps, ht, hv, h => by
    have : cs = [] := List.length_eq_zero_iff.1 hv.1.symm
    subst this; exact h
  | t :: ts, v :: vs, [], fr, tmps, ht, hv, h => absurd hv.1 (by simp)
  | t :: ts, v :: vs, c :: cs, fr, tmps, ht, hv, h => by
    have h1 : FR K n N (fr.put t v) (({ tmps := tmps, defers := [] } : Act).put (some t) c).tmps := FR.put (a := { tmps := tmps, defers := [] }) h (ht t (by simp)) hv.head
    exact frIn_sound (ts := ts) (vs := vs) (cs := cs) (fun t ht' => ht t (by simp [ht'])) ⟨by have := hv.1; simp at this; exact this, fun i a b => hv.2 (i + 1) (by simp; exact a) (by simp; exact b)⟩ h1

/-- Touches of a loop's record. -/
def LoopEv (b : Nat) (e : Event) : Prop := e = ⟨.obj b, false, false⟩ ∨ e = ⟨.obj b, true, false⟩
theorem ev_getLoop {P : Program} {w : World} {b : Nat} {l : Loop} (h : w.heap[b]? = some (.loop l)) (es : Array Event) : (Instr.getLoop b).events P w es = es.push ⟨.obj b, false, false⟩ := by
  simp [-Sem.runT_eq, Instr.getLoop, getObj, Sem.events, Sem.runT, bind, Sem.bind, h, Obj.isChan, pure]
theorem ev_setLoop {P : Program} {w : World} {b : Nat} {l l' : Loop} (h : w.heap[b]? = some (.loop l)) (es : Array Event) : (setObj b (.loop l')).events P w es = es.push ⟨.obj b, true, false⟩ := by
  simp [-Sem.runT_eq, setObj, Sem.events, Sem.runT, h, Obj.isChan]
theorem ev_beginRound {P : Program} {w : World} {b : Nat} {l : Loop} (h : w.heap[b]? = some (.loop l)) (hs : l.state = .ready) : ∀ e ∈ (Instr.beginRound b).events P w #[], LoopEv b e := by
  intro e he
  simp only [Instr.beginRound, Sem.events_bind, run_getLoop h, Result.evThen_ok, ev_getLoop h, run_setLoop _ h, ev_setLoop h, hs, Sem.events_pure] at he
  simpa [LoopEv] using he
theorem ev_endRound {P : Program} {w : World} {b : Nat} {l : Loop} (h : w.heap[b]? = some (.loop l)) (j : Option Code) : ∀ e ∈ (Instr.endRound b j).events P w #[], LoopEv b e := by
  intro e he
  simp only [Instr.endRound, Sem.events_bind, run_getLoop h, Result.evThen_ok, ev_getLoop h, run_setLoop _ h, ev_setLoop h, Sem.events_pure] at he
  simpa [LoopEv] using he
theorem ev_endLoop {P : Program} {w : World} {b : Nat} {l : Loop} (h : w.heap[b]? = some (.loop l)) (hs : l.state ≠ .busy) : ∀ e ∈ (Instr.endLoop b).events P w #[], LoopEv b e := by
  intro e he
  have hb : (l.state == LoopState.busy) = false := by simpa using hs
  simp only [Instr.endLoop, Sem.events_bind, run_getLoop h, Result.evThen_ok, ev_getLoop h, hb, Bool.false_eq_true, if_false, Sem.run_pure, Sem.events_pure, run_setLoop _ h, ev_setLoop h] at he
  simpa [LoopEv] using he
theorem LoopEv.ok {Sh V : Nat → Prop} {b n t : Nat} {e : Event} (h : LoopEv b e) (hb : b < t) (hv : V b ∧ ¬ Sh b) : EvOK n (fun b => V b ∧ ¬ Sh b) V t e := by
  rcases h with rfl | rfl <;> exact ⟨hb, rfl, .inr hv⟩
/-- The record of a loop of ours is turned: within the guarantee. -/
theorem gua_loop {Sh V : Nat → Prop} {K : Kr} {σ : List AObj} {w : World} {b : Nat} {l' : Loop} (hlt : b < w.heap.size) (hv : V b ∧ ¬ Sh b) {es : Array Event} (he : ∀ e ∈ es, LoopEv b e) : Gua Sh V w { w with heap := w.heap.setIfInBounds b (.loop l') } es := by
  have hsz : ({ w with heap := w.heap.setIfInBounds b (.loop l') } : World).heap.size = w.heap.size := by simp
  refine ⟨by rw [hsz]; exact Nat.le_refl _, fun q hq h => ?_, rfl, rfl, rfl, Nat.le_refl _, fun e hm => by rw [hsz]; exact (he e hm).ok hlt hv⟩
  show (w.heap.setIfInBounds b _)[q]? = _
  rw [Array.getElem?_setIfInBounds_ne]
  intro e; subst e; exact h.elim (fun h => h hv.1) hv.2
theorem own_loop {Sh V : Nat → Prop} {K : Kr} {w : World} (hO : OwnV Sh V K σ w) {r : Nat} {st : LoopState} {pend : Option Code} {fn : FuncId} {ps : Array Tmp} {as body : Code} {N : Nat} {fr : Fr} (hg : hget σ r = some (.loop st pend fn ps as body N fr)) : V (K.φ r) ∧ ¬ Sh (K.φ r) :=
  hO.obj _ (not_free (r := r) hg rfl)
/-- Behind a turn of the record. -/
theorem own_turn {Sh V : Nat → Prop} {K : Kr} {σ' : List AObj} {w w' : World} (hO : OwnV Sh V K σ w) (hR' : R K σ' w') (hs : Step K σ w K σ' w') (hz : w'.heap.size = w.heap.size) : OwnV Sh V K σ' w' := by
  have := hO.step hR' hs
  rw [hz, newer_same] at this; exact this
theorem stepV_turn {V : Nat → Prop} {K : Kr} {σ' : List AObj} {w w' : World} (hs : Step K σ w K σ' w') (hz : w'.heap.size = w.heap.size) : StepV V K σ w V K σ' w' := by
  have := StepV.of_step (V := V) hs
  rw [hz, newer_same] at this; exact this
theorem set_size (w : World) (b : Nat) (o : Obj) : ({ w with heap := w.heap.setIfInBounds b o } : World).heap.size = w.heap.size := by simp

section
variable {P : Program} {main : Bool} {b c : Frame} {a : Act} {k : List Item} {cs : List Frame} {w w' : World}
theorem stepG_beginRound {l : Nat} (hb : b.roundOf = some l) (hr : (Instr.beginRound l).run P w = .ok () w') :
    ∃ es, stepG P main (G (b.atR a (.beginRound :: k)) cs) w = .go (G (b.atR a k) cs) w' es ∧ ∀ e ∈ es, e ∈ (Instr.beginRound l).events P w #[] := by
  refine ⟨seen P b.fn (if b.kind == .early then #[] else (Instr.beginRound l).events P w #[]), ?_, fun e he => ?_⟩
  · simp [G, stepG, stepG.exec, stepG.apply, Frame.atR, hb, hr, Result.andThen, Frame.finish, GStep.after]
  · have := mem_seen he
    split at this
    · simp at this
    · exact this
theorem stepG_endRound {l : Nat} {v : Value} {j : Option Code} (hb : b.roundOf = some l) (hk : b.kind = .normal) {todo : List Item} (hl : Leaves todo j) (hr : (Instr.endRound l j).run P w = .ok v w') :
    stepG P main (G (b.atR a todo) (c :: cs)) w = .go (G (c.finish v) cs) w' (seen P b.fn ((Instr.endRound l j).events P w #[])) := by
  cases hl with
  | nil => simp [G, stepG, stepG.exec, Frame.atR, hb, hk, hr, doReturn, GStep.after]
  | ret k => simp [G, stepG, stepG.exec, Frame.atR, hb, hk, hr, doReturn, GStep.after]
  | exit id k hx => simp [G, stepG, stepG.exec, Frame.atR, hb, hk, hx, hr, doReturn, GStep.after]
theorem stepG_endRangeFunc {l : Nat} {jump : Option Code} (h : (Instr.endLoop l).run P w = .ok jump w') :
    stepG P main (G (b.atR a (.endRangeFunc l :: k)) cs) w = .go (G (b.atR a ((jump.map Item.code).toList ++ k)) cs) w' (seen P b.fn ((Instr.endLoop l).events P w #[])) := by
  simp [G, stepG, stepG.exec, Frame.atR, h, GStep.after]
theorem Callable.events {f : FuncId} (h : Callable P f) (args : Array Value) (w : World) (es : Array Event) : (callFunc f args).events P w es = es := by
  obtain ⟨fn, h1, h2, h3⟩ := h.fn
  have h2' : ¬ fn.name = "runtime.NumGoroutine" := by simpa using h2
  have h3' : ¬ fn.body = none := fun e => by rw [e] at h3; cases h3
  simp [-Sem.runT_eq, callFunc, program, Sem.events, Sem.runT, bind, Sem.bind, h1, h2', h3', pure]
theorem stepG_rangeFunc {g : Operand} {ps : Array Tmp} {assign body : Code} {l : Nat} {mk : List Deferred} {w₁ : World} {f : FuncId} {p q : Array Value}
    (he : (Instr.enterLoop b.fn a.tmps ps assign body b.roundOf).run P w = .ok (l, mk) w₁) (hv : a.eval g = .func (.func f) p q) (hC : Callable P f) :
    stepG P main (G (b.atR a (.code (.rangeFunc g ps assign body) :: k)) cs) w =
      .go (G (Frame.enter P f (p ++ #[.func (.yield l) #[] #[]] ++ q) .normal) (b.atR { a with defers := mk ++ a.defers } (.inRangeFunc l :: k) :: cs)) w₁ (seen P b.fn ((Instr.enterLoop b.fn a.tmps ps assign body b.roundOf).events P w #[]) ++ seen P b.fn #[]) := by
  have hev := Frame.eval_atR b { a with defers := mk ++ a.defers } (.inRangeFunc l :: k)
  simp only [Frame.atR] at hev
  have hsem : (do let d ← resolve ({ tmps := a.tmps, defers := mk ++ a.defers } : Act).eval { callee := .value g, args := #[.const (.func (.yield l) #[] #[])], argTypes := #[] } 0; invoke d.target d.args : Sem Next) = callFunc f (p ++ #[.func (.yield l) #[] #[]] ++ q) := by
    have hv' : ({ tmps := a.tmps, defers := mk ++ a.defers } : Act).eval g = .func (.func f) p q := hv
    have hm : (#[.const (.func (.yield l) #[] #[])] : Array Operand).map ({ tmps := a.tmps, defers := mk ++ a.defers } : Act).eval = #[.func (.yield l) #[] #[]] := by simp [Act.eval]
    simp only [resolve, hv', Deferred.ofValue, hm]
    rfl
  have hrun := hC.run (p ++ #[.func (.yield l) #[] #[]] ++ q) w₁
  have hevs := hC.events (p ++ #[.func (.yield l) #[] #[]] ++ q) w₁ #[]
  simp only [G, stepG, stepG.exec, Frame.atR, Sem.runT_eq, he, GStep.after, hev, hsem, stepG.apply, hrun, hevs, if_true]
  cases b.kind <;> simp
end

/-- The body of a round begins. -/
theorem ARun.beginRound {r : Nat} {k : List Item} {pend : Option Code} {fn : FuncId} {ps : Array Tmp} {as body : Code} {N : Nat} {fr fr0 : Fr} (hg : hget σ r = some (.loop .ready pend fn ps as body N fr0))
    (h : ARun E (some r) k fr (hset σ r (.loop .busy pend fn ps as body N fr0)) Q) : ARun E (some r) (.beginRound :: k) fr σ Q := by
  intro M hM K w V a b cs hb hR hO hF
  refine M.step rfl fun w₁ hre => ?_
  have hR1 := hR.rely hO hre
  have hO1 := hO.rely hre
  obtain ⟨l, h1, h2, h3, h4, h5, h6, h7, h8, h9, _⟩ := hR1.turnLoop hg
  obtain ⟨r1, r2⟩ := h9 .busy l.pending
  have hset : hset σ r (.loop .busy l.pending fn ps as body N fr0) = hset σ r (.loop .busy pend fn ps as body N fr0) := by rw [h3]
  rw [hset] at r1 r2
  obtain ⟨es, g1, g2⟩ := stepG_beginRound (P := E.P) (main := M.main) (a := a) (k := k) (cs := cs) hb.2.1 (run_beginRound h1 h2)
  refine ⟨_, _, es, g1, gua_loop (K := K) (σ := σ) (lt_of_heap h1) (own_loop hO1 hg) fun e he => ev_beginRound h1 h2 e (g2 e he), ?_⟩
  rw [set_size, newer_same]
  exact ARun.go (h M hM) (hb.mono r2.ext r2.len) r1 (own_turn hO1 r1 r2 (set_size _ _ _)) (hF.mono r2.ext r2.len) ((StepV.of_rel hre).trans (stepV_turn r2 (set_size _ _ _))) rfl

/-- A CALL OF YIELD: a round. -/
theorem AYield.of {r : Nat} {args : List AV} {pend : Option Code} {fn : FuncId} {ps : Array Tmp} {as body : Code} {fr : Fr} {Y : AV → List AObj → Prop} (hg : hget σ r = some (.loop .ready pend fn ps as body E.N fr)) (hl : args.length = ps.size) (hN : ∀ t ∈ ps.toList, t < E.N)
    (h : ARun E (some r) [.code as, .beginRound, .code body] (frIn fr ps.toList args) σ fun j fr2 σ2 => (∀ t, j ≠ some (.goto t)) ∧ ∃ pend', hget σ2 r = some (.loop .busy pend' fn ps as body E.N fr) ∧ Y (.bool j.isNone) (hset σ2 r (.loop (if j.isNone then .ready else .done) j fn ps as body E.N fr))) : AYield E.S r args σ Y := by
  intro K w cargs hR hV
  obtain ⟨l, h1, h2, h3, h4, h5, h6, h7, h8, h9, _⟩ := hR.turnLoop hg
  have hr : r < σ.length := (List.getElem?_eq_some_iff.1 hg).1
  have hcl : cargs.size = args.length := by have := hV.1; simpa using this.symm
  let tmps := ((ps.toList.zip cargs.toList).foldl (fun tmps p => tmps.setIfInBounds p.1 p.2) l.tmps)
  refine ⟨fn, tmps, as, body, ?_, fun M hM V hO c cs => ?_⟩
  · simp only [Instr.yield, Sem.run_bind, run_getLoop h1, Result.andThen_ok, h5, h4, h6, h7]
    rw [if_neg (by omega)]
    simp only [Sem.run_pure, tmps]
    congr 2
    rw [← Array.foldl_toList]
    simp
  · let b : Frame := { (default : Frame) with fn := fn, kind := .normal, roundOf := some (K.φ r) }
    have hb0 : Frame.round (K.φ r) fn tmps as body .normal = b.atR { tmps := tmps, defers := [] } [.code as, .beginRound, .code body] := by
      simp [Frame.round, Frame.atR, b]
    rw [hb0]
    refine M.bind (h M hM K w V { tmps := tmps, defers := [] } b (c :: cs) ⟨hr, rfl, rfl⟩ hR hO (frIn_sound hN hV h8)) ?_
    rintro g' w2 V2 ⟨K2, σ2, fr2, a2, t2, j, ms, rfl, g1, ⟨g3, pend', g3', g3''⟩, g4, g4', g5, g6, g7, g8⟩
    refine M.step rfl fun w₁ hre => ?_
    have hR1 := g4.rely g4' hre
    have hO1 := g4'.rely hre
    obtain ⟨l2, k1, k2, k3, k4, k5, k6, k7, k8, k9, _⟩ := hR1.turnLoop g3'
    have hφ : K2.φ r = K.φ r := g6.ext.φ r hr
    obtain ⟨m1, m2⟩ := k9 (if j.isNone then .ready else .done) j
    have hown := own_loop hO1 g3'
    rw [hφ] at k1 m1 m2 hown
    have hend := run_endRound (P := E.P) k1 j
    refine ⟨_, _, _, stepG_endRound (P := E.P) (main := M.main) (b := b) (a := a2) (c := c) (cs := cs) rfl rfl g1 hend, gua_loop (K := K2) (σ := σ2) (lt_of_heap k1) hown fun e he => ev_endRound k1 j e (mem_seen he), ?_⟩
    rw [set_size, newer_same]
    exact M.ret ⟨.bool j.isNone, .bool j.isNone, _, K2, rfl, g3'', .bool _, m1, own_turn hO1 m1 m2 (set_size _ _ _), (g6.trans (.of_rel hre)).trans (stepV_turn m2 (set_size _ _ _))⟩

/-- The end of a range over a function: the record is let go; what is pending is done. -/
theorem J_endRange {M : RMode E.P} (hM : E.S M) {K : Kr} {σ3 : List AObj} {w : World} {V : Nat → Prop} {n : Nat} {st : LoopState} {pend : Option Code} {fn : FuncId} {ps : Array Tmp} {as body : Code} {N : Nat} {fr0 : Fr} {k : List Item} {a : Act} {b : Frame} {cs : List Frame} {Post : Goroutine → World → (Nat → Prop) → Prop}
    (hg : hget σ3 n = some (.loop st pend fn ps as body N fr0)) (hst : st ≠ .busy) (hR : R K σ3 w) (hO : OwnV M.Sh V K σ3 w)
    (hk : ∀ w', R K (hset σ3 n .dead) w' → OwnV M.Sh V K (hset σ3 n .dead) w' → StepV V K σ3 w V K (hset σ3 n .dead) w' → M.J (G (b.atR a ((pend.map Item.code).toList ++ k)) cs) w' V Post) :
    M.J (G (b.atR a (.endRangeFunc (K.φ n) :: k)) cs) w V Post := by
  refine M.step rfl fun w₁ hre => ?_
  have hR1 := hR.rely hO hre
  have hO1 := hO.rely hre
  obtain ⟨l, k1, k2, k3, k4, k5, k6, k7, k8, _, k10⟩ := hR1.turnLoop hg
  obtain ⟨r4, s4⟩ := k10 { l with state := .exhausted }
  have hend := run_endLoop (P := E.P) k1 (by rw [k2]; exact hst)
  have hend : (Instr.endLoop (K.φ n)).run E.P w₁ = .ok pend { w₁ with heap := w₁.heap.setIfInBounds (K.φ n) (.loop { l with state := .exhausted }) } := by rw [hend, k3]
  refine ⟨_, _, _, stepG_endRangeFunc (P := E.P) (main := M.main) (b := b) (a := a) (k := k) (cs := cs) hend, gua_loop (K := K) (σ := σ3) (lt_of_heap k1) (own_loop hO1 hg) fun e he => ev_endLoop k1 (by rw [k2]; exact hst) e (mem_seen he), ?_⟩
  rw [set_size, newer_same]
  exact hk _ r4 (own_turn hO1 r4 s4 (set_size _ _ _)) ((StepV.of_rel hre).trans (stepV_turn s4 (set_size _ _ _)))

/-- A RANGE OVER A FUNCTION. -/
theorem ARun.rangeFunc {f : Operand} {ps : Array Tmp} {as body : Code} {k : List Item} {fr : Fr} {g : FuncId} {p q : List AV} (hf : aeval fr f = some (.fn (.func g) p q))
    (h : ∀ fn, ACalls E.S g (p ++ [.yield σ.length] ++ q) (σ ++ [.loop .ready none fn ps as body E.N fr]) fun v σ' => ∃ st pend, st ≠ .busy ∧ hget σ' σ.length = some (.loop st pend fn ps as body E.N fr) ∧
      ARun E none ((pend.map Item.code).toList ++ k) fr (hset σ' σ.length .dead) Q) : ARun E none (.code (.rangeFunc f ps as body) :: k) fr σ Q := by
  intro M hM K w V a b cs hb hR hO hF
  have hb : b.roundOf = none := hb
  refine M.step rfl fun w₁ hre => ?_
  have hR1 := hR.rely hO hre
  have hO1 := hO.rely hre
  -- the block of the deferred calls
  let w1 := w₁.alloc (.deferred (some []))
  obtain ⟨r1, s1⟩ := hR1.newS (.deferred (some [])) K (.refl _ _) rfl (fun b p v hv => .inl hv)
  have hfree1 : Free K σ w₁.heap.size := fun r o hr hb' => by have := (hR1.obj r o hr).blk_lt hb'; omega
  have hh1 : w1.heap[w₁.heap.size]? = some (.deferred (some [])) := heap_alloc_new w₁ _
  have hsz1 : w1.heap.size = w₁.heap.size + 1 := heap_alloc_size w₁ _
  -- the loop's record
  let rec0 : Loop := { state := .ready, pending := none, fn := b.fn, tmps := a.tmps, params := ps, assign := as, body := body, defers := w₁.heap.size }
  let w2 := w1.alloc (.loop rec0)
  have hsz2 : w2.heap.size = w1.heap.size + 1 := heap_alloc_size w1 _
  obtain ⟨r2, s2⟩ := r1.new (.loop .ready none b.fn ps as body E.N fr) (.loop rec0) (K.setφ σ.length w1.heap.size) (Ext.setφ K _ _) (fun _ _ => rfl) (fun b p v hv => .inl hv) (fun b hb => by
    have : b = (K.setφ σ.length w1.heap.size).φ σ.length := hb
    simpa only [Kr.setφ, if_true] using this)
    ⟨rec0, by simp only [Kr.setφ, if_true]; exact heap_alloc_new w1 _, rfl, rfl, rfl, rfl, rfl, rfl, hF.mono (Ext.setφ K _ _) (by omega)⟩
  have henter : (Instr.enterLoop b.fn a.tmps ps as body b.roundOf).run E.P w₁ = .ok (w1.heap.size, [mark w₁.heap.size]) w2 := by
    rw [hb]; rfl
  have hevs : (Instr.enterLoop b.fn a.tmps ps as body b.roundOf).events E.P w₁ #[] = #[] := by
    rw [hb]; rfl
  have hfv := aeval_sound hF hf
  generalize hfe : a.eval f = fv at hfv
  cases hfv with
  | fn _ _ _ p' q' l1 l2 g1 g2 =>
    have hA := h b.fn
    have s12 := s1.trans s2
    refine ⟨_, _, _, stepG_rangeFunc henter hfe hA.1, ⟨s12.size, fun q hq _ => ?_, s12.os, s12.tape, s12.output, s12.dr, fun e he => ?_⟩, ?_⟩
    · show (w1.heap.push _)[q]? = _
      rw [Array.getElem?_push, if_neg (by omega)]
      show (w₁.heap.push _)[q]? = _
      rw [Array.getElem?_push, if_neg (by omega)]
    · rw [hevs] at he
      rcases Array.mem_append.1 he with he | he <;> (have := mem_seen he; simp at this)
    have hO2 := hO1.step r2 s12
    have hn2 : σ.length ≤ (σ ++ [AObj.loop .ready none b.fn ps as body E.N fr]).length := by simp
    have hVy : VR (K.setφ σ.length w1.heap.size) (σ ++ [AObj.loop .ready none b.fn ps as body E.N fr]).length (.yield σ.length) (.func (.yield w1.heap.size) #[] #[]) := by
      have := VR.yield (K := K.setφ σ.length w1.heap.size) (n := (σ ++ [AObj.loop .ready none b.fn ps as body E.N fr]).length) σ.length (by simp)
      simpa only [Kr.setφ, if_true] using this
    have hp : VRs (K.setφ σ.length w1.heap.size) (σ ++ [AObj.loop .ready none b.fn ps as body E.N fr]).length p p' := VRs.mono ⟨l1, g1⟩ s2.ext hn2
    have hq : VRs (K.setφ σ.length w1.heap.size) (σ ++ [AObj.loop .ready none b.fn ps as body E.N fr]).length q q' := VRs.mono ⟨l2, g2⟩ s2.ext hn2
    have hargs : VRs (K.setφ σ.length w1.heap.size) (σ ++ [AObj.loop .ready none b.fn ps as body E.N fr]).length (p ++ [.yield σ.length] ++ q) (p'.toArray ++ #[Value.func (.yield w1.heap.size) #[] #[]] ++ q'.toArray).toList := by
      have := (hp.append (VRs.cons hVy .nil)).append hq
      simpa using this
    have hcall := hA.2 M hM (K.setφ σ.length w1.heap.size) w2 (Newer V w₁.heap.size w2.heap.size) (p'.toArray ++ #[.func (.yield w1.heap.size) #[] #[]] ++ q'.toArray) .normal (b.atR { a with defers := [mark w₁.heap.size] ++ a.defers } (.inRangeFunc w1.heap.size :: k) :: cs) r2 hO2 hargs
    refine M.bind hcall ?_
    rintro g' w3 V3 ⟨fr3, v, σ3, K3, rfl, _, hkd, hl, ⟨st, pend, hst, hg3, hrun⟩, r3, hO3, s3⟩
    refine J_back hl hkd fun w4 c hre4 _ => ?_
    rw [finish_atR_inRangeFunc]
    have hφ : K3.φ σ.length = w1.heap.size := by
      rw [s3.ext.φ σ.length (by simp)]; simp only [Kr.setφ, if_true]
    rw [← hφ]
    refine J_endRange hM hg3 hst (r3.rely hO3 hre4) (hO3.rely hre4) fun w5 r5 hO5 s5 => ?_
    have hK : StepV (Newer V w₁.heap.size w2.heap.size) (K.setφ σ.length w1.heap.size) (σ ++ [AObj.loop .ready none b.fn ps as body E.N fr]) w2 V3 K3 (hset σ3 σ.length .dead) w5 := (s3.trans (.of_rel hre4)).trans s5
    have hKall : StepV V K σ w V3 K3 (hset σ3 σ.length .dead) w5 := ((StepV.of_rel hre).trans (.of_step s12)).trans hK
    refine M.bind (hrun M hM K3 w5 V3 { a with defers := [mark w₁.heap.size] ++ a.defers } b cs hb r5 hO5 (hF.mono hKall.ext hKall.len)) ?_
    rintro g6 w6 V6 ⟨K6, σ6, fr6, a6, t6, j, ms, rfl, m1, m3, m4, m4', m5, m6, m7, m8⟩
    have hD2 : Free (K.setφ σ.length w1.heap.size) (σ ++ [AObj.loop .ready none b.fn ps as body E.N fr]) w₁.heap.size := (s2.keep w₁.heap.size (by show w₁.heap.size < w1.heap.size; rw [hsz1]; exact Nat.lt_succ_self _) hfree1).2.1
    have hVD : Newer V w₁.heap.size w2.heap.size w₁.heap.size := .inr ⟨Nat.le_refl _, by omega⟩
    have hkeep := (hK.trans m6).keep w₁.heap.size (by omega) hVD hD2
    have hh2 : w2.heap[w₁.heap.size]? = some (.deferred (some [])) := by
      show (w1.heap.push _)[w₁.heap.size]? = _
      rw [Array.getElem?_push, if_neg (by omega)]; exact hh1
    refine M.ret ⟨K6, σ6, fr6, a6, t6, j, ms ++ [w₁.heap.size], rfl, m1, m3, m4, m4', m5, hKall.trans m6, by rw [m7]; simp, ?_, fun r hr => ?_, fun r hr => ?_, fun r hr => ?_, fun r hr => ?_⟩
    · rw [List.nodup_append]
      refine ⟨m8.nodup, by simp, fun x hx y hy => ?_⟩
      simp at hy; subst hy
      have := m8.lo x hx; have := hK.size; omega
    · rcases List.mem_append.1 hr with hr | hr
      · have := m8.lo r hr; have := hKall.size; omega
      · simp at hr; subst hr; exact hre.size
    · rcases List.mem_append.1 hr with hr | hr
      · exact m8.heap r hr
      · simp at hr; subst hr; rw [hkeep.1]; exact hh2
    · rcases List.mem_append.1 hr with hr | hr
      · exact m8.free r hr
      · simp at hr; subst hr; exact hkeep.2.1
    · rcases List.mem_append.1 hr with hr | hr
      · exact m8.own r hr
      · simp at hr; subst hr
        exact ⟨(hK.trans m6).sub _ hVD, fun hs => by have := hO1.sh _ hs; omega⟩

end Go.Mu
