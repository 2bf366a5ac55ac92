/- Loops whose rounds are walked for any rest of the code and any end. -/
import Derived.Test.YtpodkdondibbfaaMu3
set_option linter.unusedSimpArgs false
set_option linter.unusedVariables false
namespace Go.Mu
open Go

theorem todoOK_two {E : Env} {c : Code} {K : List Item} (h : todoOK E [.code c, .inLoop c] = true) (hK : todoOK E K = true) : todoOK E (.code c :: .inLoop c :: K) = true := by
  simp only [todoOK_cons, Bool.and_eq_true] at h ⊢
  exact ⟨h.1, h.2.1, hK⟩
theorem ARun.forG {E : Env} (hE : EnvOK E) {ro : Option Nat} {c : Code} {k : List Item} {kp : Nat → Bool} {tm sl : List (Nat × AV)} {σ : List AObj} {Q : Post} (n : Nat) (P : Nat → Prop) (lv : Nat → List (Nat × AV)) (S : Nat → List AObj → List AObj) (j0 : List AObj)
    (hO : todoOK E [.code c, .inLoop c] = true) (hk : todoOK E k = true) (hσ : S 0 j0 = σ) (h0 : subF (upd sl (lv 0)) sl) (hP : P 0)
    (hs : ∀ (K : List Item) (Q : Post), todoOK E K = true → ∀ i j, i < n → P i → (P (i + 1) → ∀ j', ARun E ro (.inLoop c :: K) ⟨kp, [], upd sl (lv (i + 1))⟩ (S (i + 1) j') Q) → ev E ro 100000 (.code c :: .inLoop c :: K) ⟨kp, [], upd sl (lv i)⟩ (S i j) Q)
    (he : ∀ j, P n → ev E ro 100000 (.code c :: .inLoop c :: k) ⟨kp, [], upd sl (lv n)⟩ (S n j) Q) : ARun E ro (.code (.loop c) :: k) ⟨kp, tm, sl⟩ σ Q :=
  ARun.forS hE n P lv S j0 (todoOK_two hO hk) hσ h0 hP (hs k Q hk) he
/-- The rest of a code is walked for any end. -/
theorem todoOK_nil' {E : Env} : todoOK E [] = true := rfl
end Go.Mu
set_option linter.unusedSimpArgs false
set_option linter.unusedVariables false
namespace Go.Mu
open Go

/-- A loop with a state: while the measure is positive a round makes it less; at 0 it ends. -/
theorem ARun.loopG {E : Env} (hE : EnvOK E) {ro : Option Nat} {c : Code} {k : List Item} {kp : Nat → Bool} {tm sl : List (Nat × AV)} {σ : List AObj} {Q : Post} {α : Type} (m : α → Nat) (J : α → List AObj → Prop) (lv : α → List (Nat × AV)) (x0 : α)
    (hO : todoOK E [.code c, .inLoop c] = true) (hk : todoOK E k = true) (h0 : subF (upd sl (lv x0)) sl) (hJ : J x0 σ)
    (hs : ∀ (K : List Item) (Q : Post), todoOK E K = true → ∀ x τ, J x τ → 0 < m x → (∀ y τ', m y < m x → J y τ' → ARun E ro (.inLoop c :: K) ⟨kp, [], upd sl (lv y)⟩ τ' Q) → ev E ro 100000 (.code c :: .inLoop c :: K) ⟨kp, [], upd sl (lv x)⟩ τ Q)
    (he : ∀ x τ, J x τ → m x = 0 → ev E ro 100000 (.code c :: .inLoop c :: k) ⟨kp, [], upd sl (lv x)⟩ τ Q) : ARun E ro (.code (.loop c) :: k) ⟨kp, tm, sl⟩ σ Q := by
  have hok := todoOK_two hO hk
  have key : ∀ n x τ, m x = n → J x τ → ARun E ro (.code c :: .inLoop c :: k) ⟨kp, [], upd sl (lv x)⟩ τ Q := by
    intro n
    induction n using Nat.strongRecOn with
    | _ n ih =>
      intro x τ hm hj
      rcases Nat.eq_zero_or_pos (m x) with h | h
      · exact ev_sound hE hok (he x τ hj h)
      · exact ev_sound hE hok (hs k Q hk x τ hj h fun y τ' hlt hy => .inLoop (ih (m y) (by omega) y τ' rfl hy))
  exact .loop (ARun.sub (key _ x0 σ rfl hJ) h0)
/-- A loop that counts to n; what lives is told by a law of the objects. -/
theorem ARun.countG {E : Env} (hE : EnvOK E) {ro : Option Nat} {c : Code} {k : List Item} {kp : Nat → Bool} {tm sl : List (Nat × AV)} {σ : List AObj} {Q : Post} (n : Nat) (J : Nat → List AObj → Prop) (lv : Nat → List (Nat × AV))
    (hO : todoOK E [.code c, .inLoop c] = true) (hk : todoOK E k = true) (h0 : subF (upd sl (lv 0)) sl) (hJ : J 0 σ)
    (hs : ∀ (K : List Item) (Q : Post), todoOK E K = true → ∀ i τ, i < n → J i τ → (∀ τ', J (i + 1) τ' → ARun E ro (.inLoop c :: K) ⟨kp, [], upd sl (lv (i + 1))⟩ τ' Q) → ev E ro 100000 (.code c :: .inLoop c :: K) ⟨kp, [], upd sl (lv i)⟩ τ Q)
    (he : ∀ τ, J n τ → ev E ro 100000 (.code c :: .inLoop c :: k) ⟨kp, [], upd sl (lv n)⟩ τ Q) : ARun E ro (.code (.loop c) :: k) ⟨kp, tm, sl⟩ σ Q :=
  ARun.forJ hE n J lv (todoOK_two hO hk) h0 hJ (hs k Q hk) he
end Go.Mu
set_option linter.unusedSimpArgs false
set_option linter.unusedVariables false
namespace Go.Mu
open Go

/-- The number of a code's first region. -/
def Code.first : Code → Nat
  | .region id _ _ => id + 1
  | .seq a _ => Code.first a
  | .block _ a => Code.first a
  | .loop a => Code.first a
  | .scope a => Code.first a
  | _ => 0
/-- The body of the loop that begins with a region. -/
def Code.loopOf (n : Nat) : Code → Option Code
  | .seq a b => match Code.loopOf n a with
    | some c => some c
    | none => Code.loopOf n b
  | .cond _ a b => match Code.loopOf n a with
    | some c => some c
    | none => Code.loopOf n b
  | .block _ a => Code.loopOf n a
  | .scope a => Code.loopOf n a
  | .loop a => if Nat.beq (Code.first a) (n + 1) then some a else Code.loopOf n a
  | .rangeFunc _ _ a b => match Code.loopOf n a with
    | some c => some c
    | none => Code.loopOf n b
  | _ => none
def loopAt (f : Func) (n : Nat) : Code := match f.body with
  | some c => match Code.loopOf n c with
    | some d => d
    | none => .skip
  | none => .skip
theorem useLoop {P : Code → Prop} {c c' : Code} (h : c = c') (k : P c') : P c := h ▸ k
end Go.Mu
set_option linter.unusedSimpArgs false
set_option linter.unusedVariables false
namespace Go.Mu
open Go

variable {E : Env} {ro : Option Nat} {K : Kr} {n : Nat}

theorem mlen_sound (hT : TysOK E.P E.ty) {σ : List AObj} {w : World} (hR : R K σ w) {t kt et r : Nat} {es : List (AV × AV)} (hk : (E.ty t).kd = .map kt et) (hg : hget σ r = some (.map es)) (type : TypeId) :
    (Builtin.len_ #[t] type #[.map (some (K.φ r))]).run E.P w = .ok (.int .i64 es.length) w := by
  obtain ⟨d, hd, hu⟩ := run_under hT (t := t) (by rw [hk]; simp)
  rw [hk] at hd
  simp only [KdOK] at hd
  subst hd
  obtain ⟨es', clock, h1, h2⟩ := hR.obj r _ hg
  simp [Builtin.len_, hu w, run_getMap h1, goInt, h2.1]
/-- An operation that takes a map's length. -/
def mlenA (E : Env) (fr : Fr) (σ : List AObj) (op : Op) (X : AV → List AObj → Prop) : Prop := match op with
  | .call ⟨.builtin .len, args, ats⟩ => match aevals fr args.toList, ats.toList with
    | some [.map r], [t] => match (E.ty t).kd, hget σ r with
      | .map _ _, some (.map es) => X (.int .i64 es.length) σ
      | _, _ => False
    | _, _ => False
  | _ => False
/-- What stands behind an operation. -/
def nextM (E : Env) (ev : Fr → List AObj → Prop) (dst : Option Tmp) (fr : Fr) (v : AV) (σ : List AObj) : Prop := match dst with
  | none => ev fr σ
  | some d => d < E.N ∧ ev (fr.put d v) σ
/-- Operations, of which the q-th takes a map's length. -/
def evOpsM (E : Env) (all : List Oper) : Nat → List Oper → Fr → List AObj → (Fr → List AObj → Prop) → Prop
  | _, [], fr, σ, Q => Q fr σ
  | 0, o :: os, fr, σ, Q => match wantA all fr o.guard with
    | none => False
    | some b => (b = true → mlenA E fr σ o.op (evNext E all os o.dst fr Q)) ∧ (b = false → evNext E all os o.dst fr Q (.tup []) σ)
  | q + 1, o :: os, fr, σ, Q => match wantA all fr o.guard with
    | none => False
    | some b => (b = true → evOp E fr σ o.type o.op (nextM E (fun fr σ => evOpsM E all q os fr σ Q) o.dst fr)) ∧ (b = false → nextM E (fun fr σ => evOpsM E all q os fr σ Q) o.dst fr (.tup []) σ)

theorem nextM_sound {X : Act → World → Prop} {ev : Fr → List AObj → Prop} {dst : Option Tmp} {fr : Fr} {σ σ' : List AObj} {w w' : World} {K K' : Kr} {a : Act} {v : AV} {c : Value}
    (ih : ∀ (K' : Kr) (σ' : List AObj) (w' : World) (fr : Fr) (a' : Act), ev fr σ' → R K' σ' w' → FR K' σ'.length E.N fr a'.tmps → Step K σ w K' σ' w' → a'.defers = a.defers → X a' w')
    (h : nextM E ev dst fr v σ') (hR : R K' σ' w') (hF : FR K σ.length E.N fr a.tmps) (hS : Step K σ w K' σ' w') (hv : VR K' σ'.length v c) : X (a.put dst c) w' := by
  have hF' : FR K' σ'.length E.N fr a.tmps := hF.mono hS.ext hS.len
  cases dst with
  | none => exact ih K' σ' w' fr a h hR hF' hS rfl
  | some d => exact ih K' σ' w' (fr.put d v) _ h.2 hR (hF'.put h.1 hv) hS (put_defers _ _ _)

theorem mlenIn_sound (hE : EnvOK E) {fr : Fr} {σ : List AObj} {w : World} {a : Act} {o : Oper} {X : AV → List AObj → Prop} (h : mlenA E fr σ o.op X) (hR : R K σ w) (hF : FR K σ.length E.N fr a.tmps) {KK : Act → World → Prop} {QQ : Exit → Act → World → Prop}
    (hk : ∀ K' σ' w' v c, X v σ' → R K' σ' w' → VR K' σ'.length v c → Step K σ w K' σ' w' → KK (a.put o.dst c) w') : o.wpIn (Fw ro) n E.P a w KK QQ := by
  refine ⟨fun f _ => trivial, ?_⟩
  obtain ⟨dst, op, type, pos, after, guard⟩ := o
  simp only at h
  unfold mlenA at h
  split at h
  · rename_i args ats
    split at h
    · rename_i r t hargs hats
      split at h
      · rename_i kt et es hkd hg
        rw [notDefer (by intro c hc; cases hc)]
        have hv := aevals_sound hF hargs
        have hl : args.toList.length = 1 := by have := hv.1; simp at this; simpa using this.symm
        obtain ⟨x, hx⟩ := List.length_eq_one_iff.1 hl
        have hx' : args = #[x] := by apply Array.ext'; simpa using hx
        subst hx'
        have ht' : ats = #[t] := by apply Array.ext'; simpa using hats
        subst ht'
        simp at hv
        have hm := hv.head.map_inv.2
        have hrun : (execOp a.eval ⟨dst, .call ⟨.builtin .len, #[x], #[t]⟩, type, pos, after, guard⟩).run E.P w = .ok (.value (.int .i64 es.length)) w := by
          simp [execOp, resolve, invoke, builtin, hm, mlen_sound hE.ty hR hkd hg type]
        rw [hrun]
        exact hk _ _ _ _ _ h hR (.int _ _) (.refl _ _ _)
      · exact h.elim
    · exact h.elim
  · exact h.elim

theorem evOpsM_sound (hE : EnvOK E) {ops : Array Oper} {Q : Fr → List AObj → Prop} {K0 : Kr} {σ0 : List AObj} {w0 : World} {ds : List Deferred} : ∀ (q : Nat) (l : List Nat) (os : List Oper), l.map (fun i => ops[i]?) = os.map some →
    ∀ (K : Kr) (σ : List AObj) (w : World) (fr : Fr) (a : Act), evOpsM E ops.toList q os fr σ Q → R K σ w → FR K σ.length E.N fr a.tmps → Step K0 σ0 w0 K σ w → a.defers = ds →
      wpOpsIn (Fw ro) n E.P ops (Done E K0 σ0 w0 ds Q) l a w
  | q, [], os, hl, K, σ, w, fr, a, h, hR, hF, hS, hd => by
    cases os with
    | cons => simp at hl
    | nil => cases q <;> exact ⟨rfl, K, σ, fr, h, hR, hF, hS, hd⟩
  | q, i :: l, os, hl, K, σ, w, fr, a, h, hR, hF, hS, hd => by
    cases os with
    | nil => simp at hl
    | cons o os =>
      simp only [List.map_cons, List.cons.injEq] at hl
      obtain ⟨hi, hl⟩ := hl
      cases q with
      | zero =>
        have ih : ∀ (K' : Kr) (σ' : List AObj) (w' : World) (fr : Fr) (a' : Act), evOps E ops.toList os fr σ' Q → R K' σ' w' → FR K' σ'.length E.N fr a'.tmps → Step K σ w K' σ' w' → a'.defers = a.defers →
            wpOpsIn (Fw ro) n E.P ops (Done E K0 σ0 w0 ds Q) l a' w' := fun K' σ' w' fr a' h1 h2 h3 h4 h5 => evOps_sound hE l os hl K' σ' w' fr a' h1 h2 h3 (hS.trans h4) (h5.trans hd)
        simp only [evOpsM] at h
        simp only [wpOpsIn, hi]
        split at h
        · exact h.elim
        · rename_i b hb
          have hw := wantA_sound hF hb
          cases b with
          | false =>
            rw [if_neg (by rw [hw]; simp)]
            exact ⟨fun f _ => trivial, next_sound ih (h.2 rfl) hR hF (.refl _ _ _) undef_VR⟩
          | true =>
            rw [if_pos hw]
            exact mlenIn_sound hE (h.1 rfl) hR hF fun K' σ' w' v c h1 h2 h3 h4 => next_sound ih h1 h2 hF h4 h3
      | succ q =>
        have ih : ∀ (K' : Kr) (σ' : List AObj) (w' : World) (fr : Fr) (a' : Act), evOpsM E ops.toList q os fr σ' Q → R K' σ' w' → FR K' σ'.length E.N fr a'.tmps → Step K σ w K' σ' w' → a'.defers = a.defers →
            wpOpsIn (Fw ro) n E.P ops (Done E K0 σ0 w0 ds Q) l a' w' := fun K' σ' w' fr a' h1 h2 h3 h4 h5 => evOpsM_sound hE q l os hl K' σ' w' fr a' h1 h2 h3 (hS.trans h4) (h5.trans hd)
        simp only [evOpsM] at h
        simp only [wpOpsIn, hi]
        split at h
        · exact h.elim
        · rename_i b hb
          have hw := wantA_sound hF hb
          cases b with
          | false =>
            rw [if_neg (by rw [hw]; simp)]
            exact ⟨fun f _ => trivial, nextM_sound ih (h.2 rfl) hR hF (.refl _ _ _) undef_VR⟩
          | true =>
            rw [if_pos hw]
            exact opIn_sound hE (h.1 rfl) hR hF fun K' σ' w' v c h1 h2 h3 h4 => nextM_sound ih h1 h2 hF h4 h3
/-- A statement in the text's order, of which the q-th operation takes a map's length. -/
theorem ARun.regionM (hE : EnvOK E) (q : Nat) {id : Nat} {ops : Array Oper} {k : List Item} {fr : Fr} {σ : List AObj} {Q : Option Code → Fr → List AObj → Prop}
    (h : evOpsM E ops.toList q ops.toList fr σ fun fr σ => ARun E ro k fr σ Q) : ARun E ro (.code (.region id ops false) :: k) fr σ Q := by
  intro K w a b cs hb hR hF
  have hl : (List.range ops.size).map (fun i => ops[i]?) = ops.toList.map some := by
    apply List.ext_getElem
    · simp
    · intro i h1 h2
      simp at h1 h2 ⊢
  have hw := evOpsM_sound (ro := b.roundOf) (n := 0) hE q (List.range ops.size) ops.toList hl K σ w fr a h hR hF (.refl _ _ _) rfl
  obtain ⟨e, a', w', ⟨rfl, K', σ', fr', hq, h2, h3, h4, h5⟩, harr⟩ := wpIn_region hw b k cs rfl trivial (Fw_room _ _)
  obtain ⟨K2, σ2, fr2, w2, a2, t2, j, ms, g1, g2, g3, g4, g5, g6, g7, g8⟩ := hq K' w' a' b cs (hb.mono h4.ext h4.len) h2 h3
  refine ⟨K2, σ2, fr2, w2, a2, t2, j, ms, g1, (StepsIn.steps harr).trans g2, g3, g4, g5, h4.trans g6, by rw [g7, h5], ?_⟩
  exact ⟨g8.nodup, fun r hr => Nat.le_trans h4.size (g8.lo r hr), g8.heap, g8.free⟩
-- rules of the walk
def nextN (E : Env) (all : List Oper) (q : Nat) (os : List Oper) (dst : Option Tmp) (fr : Fr) (Q : Fr → List AObj → Prop) (v : AV) (σ : List AObj) : Prop := nextM E (fun fr σ => evOpsM E all q os fr σ Q) dst fr v σ
def guardM (E : Env) (all os : List Oper) (q : Nat) (dst : Option Tmp) (fr : Fr) (Q : Fr → List AObj → Prop) (σ : List AObj) (type : TypeId) (op : Op) (want : Bool) (v : Option AV) : Prop := match v with
  | some (.bool b) => (b = want → evOp E fr σ type op (nextN E all q os dst fr Q)) ∧ (b = !want → nextN E all q os dst fr Q (.tup []) σ)
  | some (.tup []) => nextN E all q os dst fr Q (.tup []) σ
  | _ => False
def guardL (E : Env) (all os : List Oper) (dst : Option Tmp) (fr : Fr) (Q : Fr → List AObj → Prop) (σ : List AObj) (op : Op) (want : Bool) (v : Option AV) : Prop := match v with
  | some (.bool b) => (b = want → mlenA E fr σ op (evNext E all os dst fr Q)) ∧ (b = !want → evNext E all os dst fr Q (.tup []) σ)
  | some (.tup []) => evNext E all os dst fr Q (.tup []) σ
  | _ => False
def mlenH (X : AV → List AObj → Prop) (σ : List AObj) : Option AObj → Prop
  | some (.map es) => X (.int .i64 es.length) σ
  | _ => False
def mlenO (X : AV → List AObj → Prop) (σ : List AObj) (k : TK) : Option AV → Prop
  | some (.map r) => match k with
    | .map _ _ => mlenH X σ (hget σ r)
    | _ => False
  | _ => False
section
variable {all os : List Oper} {q : Nat} {dst : Option Tmp} {fr : Fr} {Q : Fr → List AObj → Prop} {σ : List AObj} {type : TypeId} {op : Op} {want : Bool} {X : AV → List AObj → Prop}
theorem nextN_none {v : AV} : nextN E all q os none fr Q v σ = evOpsM E all q os fr σ Q := rfl
theorem nextN_some {d : Tmp} {v : AV} : nextN E all q os (some d) fr Q v σ = (d < E.N ∧ evOpsM E all q os (fr.put d v) σ Q) := rfl
theorem guardM_tt : guardM E all os q dst fr Q σ type op true (some (.bool true)) = evOp E fr σ type op (nextN E all q os dst fr Q) := by simp [guardM]
theorem guardM_ff : guardM E all os q dst fr Q σ type op false (some (.bool false)) = evOp E fr σ type op (nextN E all q os dst fr Q) := by simp [guardM]
theorem guardM_tf : guardM E all os q dst fr Q σ type op false (some (.bool true)) = nextN E all q os dst fr Q (.tup []) σ := by simp [guardM]
theorem guardM_ft : guardM E all os q dst fr Q σ type op true (some (.bool false)) = nextN E all q os dst fr Q (.tup []) σ := by simp [guardM]
theorem guardM_tup : guardM E all os q dst fr Q σ type op want (some (.tup [])) = nextN E all q os dst fr Q (.tup []) σ := by simp [guardM]
theorem guardL_tt : guardL E all os dst fr Q σ op true (some (.bool true)) = mlenA E fr σ op (evNext E all os dst fr Q) := by simp [guardL]
theorem guardL_ff : guardL E all os dst fr Q σ op false (some (.bool false)) = mlenA E fr σ op (evNext E all os dst fr Q) := by simp [guardL]
theorem guardL_tf : guardL E all os dst fr Q σ op false (some (.bool true)) = evNext E all os dst fr Q (.tup []) σ := by simp [guardL]
theorem guardL_ft : guardL E all os dst fr Q σ op true (some (.bool false)) = evNext E all os dst fr Q (.tup []) σ := by simp [guardL]
theorem guardL_tup : guardL E all os dst fr Q σ op want (some (.tup [])) = evNext E all os dst fr Q (.tup []) σ := by simp [guardL]
@[congr] theorem guardM_congr {v v' : Option AV} (h : v = v') : guardM E all os q dst fr Q σ type op want v = guardM E all os q dst fr Q σ type op want v' := by rw [h]
@[congr] theorem guardL_congr {v v' : Option AV} (h : v = v') : guardL E all os dst fr Q σ op want v = guardL E all os dst fr Q σ op want v' := by rw [h]
@[congr] theorem mlenH_congr {v v' : Option AObj} (h : v = v') : mlenH X σ v = mlenH X σ v' := by rw [h]
@[congr] theorem mlenO_congr {k k' : TK} {v v' : Option AV} (h1 : k = k') (h : v = v') : mlenO X σ k v = mlenO X σ k' v' := by rw [h, h1]
theorem mlenH_map {es : List (AV × AV)} : mlenH X σ (some (.map es)) = X (.int .i64 es.length) σ := rfl
theorem mlenO_map {kt et r : Nat} : mlenO X σ (.map kt et) (some (.map r)) = mlenH X σ (hget σ r) := rfl
theorem evOpsM_plain {pos : String} {after : Array Edge} : evOpsM E all (q + 1) (⟨dst, op, type, pos, after, none⟩ :: os) fr σ Q = evOp E fr σ type op (nextN E all q os dst fr Q) := by
  have e : wantA all fr none = some true := rfl
  simp only [evOpsM, e, true_implies, Bool.true_eq_false, false_implies, and_true, forall_const]
  rfl
@[congr] theorem nextN_congr {fr' : Fr} {v v' : AV} {σ' : List AObj} (h1 : fr = fr') (h2 : v = v') (h3 : σ = σ') : nextN E all q os dst fr Q v σ = nextN E all q os dst fr' Q v' σ' := by rw [h1, h2, h3]
@[congr] theorem evOpsM_congr {fr' : Fr} {σ' : List AObj} (h1 : fr = fr') (h3 : σ = σ') : evOpsM E all q os fr σ Q = evOpsM E all q os fr' σ' Q := by rw [h1, h3]
theorem wantM {j : Nat} {A B : Prop} : (match wantA all fr (some (j, want)) with
    | none => False
    | some b => (b = true → A) ∧ (b = false → B)) = match getO fr (dstOf all j) with
    | some (.bool b) => (b = want → A) ∧ (b = !want → B)
    | some (.tup []) => B
    | _ => False := by
  simp only [wantA, dstOf_eq]
  cases dstOf all j with
  | none => rfl
  | some d =>
    simp only [getO]
    cases fr.get d with
    | none => rfl
    | some v =>
      cases v with
      | bool b => cases b <;> cases want <;> simp
      | tup vs => cases vs <;> simp
      | _ => rfl
theorem evOpsM_guard {pos : String} {after : Array Edge} {j : Nat} : evOpsM E all (q + 1) (⟨dst, op, type, pos, after, some (j, want)⟩ :: os) fr σ Q = guardM E all os q dst fr Q σ type op want (getO fr (dstOf all j)) := by
  simp only [evOpsM]
  rw [wantM]; rfl
theorem evOpsM_len {pos : String} {after : Array Edge} {j : Nat} : evOpsM E all 0 (⟨dst, op, type, pos, after, some (j, want)⟩ :: os) fr σ Q = guardL E all os dst fr Q σ op want (getO fr (dstOf all j)) := by
  simp only [evOpsM]
  rw [wantM]; rfl
theorem mlenA_len {x : Operand} {t : TypeId} : mlenA E fr σ (.call ⟨.builtin .len, #[x], #[t]⟩) X = mlenO X σ (E.ty t).kd (aeval fr x) := by
  simp only [mlenA, aevals]
  cases aeval fr x with
  | none => rfl
  | some v =>
    simp only
    cases v with
    | map r =>
      simp only [mlenO]
      cases (E.ty t).kd <;> try rfl
      cases hget σ r with
      | none => rfl
      | some o => cases o <;> rfl
    | _ => rfl
end
/-- A loop that counts to n, whose rounds are goals of their own. -/
theorem ARun.countA {E : Env} {ro : Option Nat} {c : Code} {k : List Item} {kp : Nat → Bool} {tm sl : List (Nat × AV)} {σ : List AObj} {Q : Post} (n : Nat) (J : Nat → List AObj → Prop) (lv : Nat → List (Nat × AV))
    (h0 : subF (upd sl (lv 0)) sl) (hJ : J 0 σ)
    (hs : ∀ i τ, i < n → J i τ → (∀ τ', J (i + 1) τ' → ARun E ro (.inLoop c :: k) ⟨kp, [], upd sl (lv (i + 1))⟩ τ' Q) → ARun E ro (.code c :: .inLoop c :: k) ⟨kp, [], upd sl (lv i)⟩ τ Q)
    (he : ∀ τ, J n τ → ARun E ro (.code c :: .inLoop c :: k) ⟨kp, [], upd sl (lv n)⟩ τ Q) : ARun E ro (.code (.loop c) :: k) ⟨kp, tm, sl⟩ σ Q := by
  have key : ∀ m i τ, n - i = m → i ≤ n → J i τ → ARun E ro (.code c :: .inLoop c :: k) ⟨kp, [], upd sl (lv i)⟩ τ Q := by
    intro m
    induction m with
    | zero =>
      intro i τ hm hi hj
      obtain rfl : i = n := by omega
      exact he τ hj
    | succ m ih =>
      intro i τ hm hi hj
      exact hs i τ (by omega) hj fun τ' hj' => .inLoop (ih (i + 1) τ' (by omega) (by omega) hj')
  exact .loop (ARun.sub (key _ 0 σ rfl (Nat.zero_le _) hJ) h0)
end Go.Mu
