/- Part N of the abstract layer: statements are sound. -/
import Derived.Test.YtbkjffpembflcaaMu1
import Derived.OrdersIn
import Derived.RangeFuncIn
import Derived.Laws.BitsLemmas
set_option linter.unusedSimpArgs false
set_option linter.unusedVariables false
namespace Go.Mu
open Go

variable {E : Env} {ro : Option Nat} {K : Kr} {n : Nat}

/-- What stands behind an operation. -/
def evNext (E : Env) (all os : List Oper) (dst : Option Tmp) (fr : Fr) (Q : Fr → List AObj → Prop) (v : AV) (σ : List AObj) : Prop :=
  match dst with
  | none => evOps E all os fr σ Q
  | some d => d < E.N ∧ evOps E all os (fr.put d v) σ Q

theorem evOps_cons (E : Env) (all os : List Oper) (o : Oper) (fr : Fr) (σ : List AObj) (Q : Fr → List AObj → Prop) : evOps E all (o :: os) fr σ Q =
    match wantA all fr o.guard with
    | none => False
    | some b => (b = true → evOp E fr σ o.type o.op (evNext E all os o.dst fr Q)) ∧ (b = false → evNext E all os o.dst fr Q (.tup []) σ) := rfl

/-- The end of a statement, in the model. -/
def Done (E : Env) (K : Kr) (σ : List AObj) (w : World) (ds : List Deferred) (Q : Fr → List AObj → Prop) (e : Exit) (a : Act) (w' : World) : Prop :=
  e = .normal ∧ ∃ K' σ' fr', Q fr' σ' ∧ R K' σ' w' ∧ FR K' σ'.length E.N fr' a.tmps ∧ Step K σ w K' σ' w' ∧ a.defers = ds

theorem put_defers (a : Act) (d : Option Tmp) (v : Value) : (a.put d v).defers = a.defers := by cases d <;> rfl
theorem put_none_tmps (a : Act) (v : Value) : (a.put none v) = a := rfl

theorem notDefer {o : Oper} (h : ∀ c, o.op ≠ .defer c) (a : Act) (ro : Option Nat) : o.semAt ro a.eval = execOp a.eval o := Oper.semAt_eq ro a.eval o h

theorem next_sound {all os : List Oper} {dst : Option Tmp} {fr : Fr} {Q : Fr → List AObj → Prop} {σ σ' : List AObj} {w w' : World} {K K' : Kr} {a : Act} {v : AV} {c : Value} {X : Act → World → Prop}
    (ih : ∀ (K' : Kr) (σ' : List AObj) (w' : World) (fr : Fr) (a' : Act), evOps E all os fr σ' Q → R K' σ' w' → FR K' σ'.length E.N fr a'.tmps → Step K σ w K' σ' w' → a'.defers = a.defers → X a' w')
    (h : evNext E all os dst fr Q v σ') (hR : R K' σ' w') (hF : FR K σ.length E.N fr a.tmps) (hS : Step K σ w K' σ' w') (hv : VR K' σ'.length v c) : X (a.put dst c) w' := by
  have hF' : FR K' σ'.length E.N fr a.tmps := hF.mono hS.ext hS.len
  cases dst with
  | none => exact ih K' σ' w' fr a h hR hF' hS rfl
  | some d => exact ih K' σ' w' (fr.put d v) _ h.2 hR (hF'.put h.1 hv) hS (put_defers _ _ _)

/-- AN OPERATION, IN THE MODEL. -/
theorem opIn_sound (hE : EnvOK E) {fr : Fr} {σ : List AObj} {w : World} {a : Act} {o : Oper} {X : AV → List AObj → Prop} (h : evOp E fr σ o.type o.op X) (hR : R K σ w) (hF : FR K σ.length E.N fr a.tmps) {KK : Act → World → Prop} {QQ : Exit → Act → World → Prop}
    (hk : ∀ K' σ' w' v c, X v σ' → R K' σ' w' → VR K' σ'.length v c → Step K σ w K' σ' w' → KK (a.put o.dst c) w') : o.wpIn (Fw ro) n E.P a w KK QQ := by
  refine ⟨fun f _ => trivial, ?_⟩
  have hfin : ∀ {r : Result Next}, (∃ v σ', aop E fr σ o.type o.op = some (v, σ') ∧ X v σ') → (∀ c, o.op ≠ .defer c) →
      o.uponIn (Fw ro) n E.P a KK QQ ((o.semAt (Fw ro).round a.eval).run E.P w) := by
    intro _ ⟨v, σ', h1, h2⟩ hnd
    rw [notDefer hnd]
    obtain ⟨c, K', w', h3, h4, h5, h6⟩ := aop_sound hE hR hF h1
    rcases h3 with h3 | ⟨h3, rfl⟩
    · rw [h3]; exact hk _ _ _ _ _ h2 h5 h4 h6
    · rw [h3]; exact hk _ _ _ _ _ h2 h5 h4 h6
  have hplain : (match aop E fr σ o.type o.op with | some (v, σ') => X v σ' | none => False) → ∃ v σ', aop E fr σ o.type o.op = some (v, σ') ∧ X v σ' := fun h => by
    split at h
    · rename_i v σ' h1; exact ⟨v, σ', h1, h⟩
    · exact h.elim
  obtain ⟨dst, op, type, pos, after, guard⟩ := o
  cases op with
  | call c =>
    obtain ⟨callee, args, ats⟩ := c
    cases callee with
    | builtin b => exact hfin (r := .halt .blocked w) (hplain h) (fun c hc => by cases hc)
    | value f =>
      simp only [evOp] at h
      rw [notDefer (by intro c hc; cases hc)]
      split at h
      · rename_i g p q as hf has
        replace h := callA_sound hE h
        have hfv := aeval_sound hF hf
        have hav := aevals_sound hF has
        generalize hfe : a.eval f = fv at hfv
        cases hfv with
        | fn _ _ _ p' q' l1 l2 g1 g2 =>
          have hrun : (execOp a.eval ⟨dst, .call ⟨.value f, args, ats⟩, type, pos, after, guard⟩).run E.P w = .ok (.enter g (p'.toArray ++ args.map a.eval ++ q'.toArray)) w := by
            simp only [execOp, resolve, hfe, Deferred.ofValue, Sem.run_bind, Sem.run_pure, Result.andThen_ok, invoke]
            exact h.1 _ _
          rw [hrun]
          refine ⟨fun h => by simp [Fw_depth] at h, callsIn_Fw ((h.2 K w _ hR ?_).mono ?_)⟩
          · have := (VRs.append (K := K) (n := σ.length) (l := p) (l' := p') ⟨l1, g1⟩ hav).append (m := q) (m' := q') ⟨l2, g2⟩
            simpa using this
          · rintro e w' ⟨v, c, σ', K', rfl, h1, h2, h3, h4⟩
            exact hk _ _ _ _ _ h1 h3 h2 h4
      · rename_i r as hf has
        have hfv := aeval_sound hF hf
        have hav := aevals_sound hF has
        generalize hfe : a.eval f = fv at hfv
        cases hfv with
        | yield _ hr =>
          obtain ⟨fn, tmps, assign, body, h1, h2⟩ := h K w (args.map a.eval) hR (by simpa using hav)
          have hrun : (execOp a.eval ⟨dst, .call ⟨.value f, args, ats⟩, type, pos, after, guard⟩).run E.P w = .ok (.round (K.φ r) fn tmps assign body) w := by
            simp only [execOp, resolve, hfe, Deferred.ofValue, Sem.run_bind, Sem.run_pure, Result.andThen_ok, invoke]
            have e : (#[] : Array Value) ++ args.map a.eval = args.map a.eval := by simp
            rw [e]; exact h1
          rw [hrun]
          refine ⟨fun h => by simp [Fw_depth] at h, ?_⟩
          have h2' : RoundIn (Fw ro) 0 E.P (K.φ r) fn tmps assign body w _ := h2
          refine RoundIn.mono (n := n - 1) ⟨h2'.1, fun c cs hroom => h2'.2 c cs (Fw_room ro _)⟩ ?_
          rintro e w' ⟨v, c, σ', K', rfl, g1, g2, g3, g4⟩
          exact hk _ _ _ _ _ g1 g3 g2 g4
      · exact h.elim
    | invoke r m =>
      simp only [evOp] at h
      rw [notDefer (by intro c hc; cases hc)]
      split at h
      · rename_i t v0 as hf has
        split at h
        · rename_i g hg
          replace h := callA_sound hE h
          have hfv := aeval_sound hF hf
          have hav := aevals_sound hF has
          generalize hfe : a.eval r = fv at hfv
          cases hfv with
          | iface _ _ c0 hc0 =>
            have hrun : (execOp a.eval ⟨dst, .call ⟨.invoke r m, args, ats⟩, type, pos, after, guard⟩).run E.P w = .ok (.enter g (#[c0] ++ args.map a.eval)) w := by
              have e1 : (#[Value.iface t c0] ++ args.map a.eval)[0]? = some (.iface t c0) := by rw [Array.getElem?_append_left (by simp)]; rfl
              have e2 : (#[Value.iface t c0] ++ args.map a.eval).extract 1 (#[Value.iface t c0] ++ args.map a.eval).size = args.map a.eval := by
                apply Array.ext'; simp; exact List.take_of_length_le (by simp)
              simp only [execOp, resolve, hfe, Sem.run_bind, Sem.run_pure, Result.andThen_ok, invoke, e1, e2, callMethod, run_program, hE.mt t m g hg]
              exact h.1 _ _
            rw [hrun]
            refine ⟨fun h => by simp [Fw_depth] at h, callsIn_Fw ((h.2 K w _ hR ?_).mono ?_)⟩
            · have := VRs.cons hc0 hav
              simpa using this
            · rintro e w' ⟨v, c, σ', K', rfl, h1, h2, h3, h4⟩
              exact hk _ _ _ _ _ h1 h3 h2 h4
        · exact h.elim
      · exact h.elim
  | next it b =>
    simp only [evOp] at h
    cases b with
    | true => simp at h
    | false =>
      rw [if_neg (by simp)] at h
      rw [notDefer (by intro c hc; cases hc)]
      cases hit : aeval fr it with
      | none => rw [hit] at h; exact h.elim
      | some v0 =>
        rw [hit] at h
        obtain ⟨v, σ', c', w', h1, h2, h3, h4, h5⟩ := mapNext_sound (P := E.P) (T := type) hR (aeval_sound hF hit) h
        have hrun : (execOp a.eval ⟨dst, .next it false, type, pos, after, guard⟩).run E.P w = .ok (.value c') w' := by
          simp only [execOp, Sem.run_bind, h1, Result.andThen_ok, Sem.run_pure]
        rw [hrun]
        exact hk _ _ _ _ _ h2 h4 h3 h5
  | defer c => simp [evOp, aop, pop, litOp, hop] at h
  | _ => exact hfin (r := .halt .blocked w) (hplain h) (fun c hc => by cases hc)

theorem evOps_sound (hE : EnvOK E) {ops : Array Oper} {Q : Fr → List AObj → Prop} {K0 : Kr} {σ0 : List AObj} {w0 : World} {ds : List Deferred} : ∀ (l : List Nat) (os : List Oper), l.map (fun i => ops[i]?) = os.map some →
    ∀ (K : Kr) (σ : List AObj) (w : World) (fr : Fr) (a : Act), evOps E ops.toList os fr σ Q → R K σ w → FR K σ.length E.N fr a.tmps → Step K0 σ0 w0 K σ w → a.defers = ds →
      wpOpsIn (Fw ro) n E.P ops (Done E K0 σ0 w0 ds Q) l a w
  | [], os, hl, K, σ, w, fr, a, h, hR, hF, hS, hd => by
    cases os with
    | cons => simp at hl
    | nil => exact ⟨rfl, K, σ, fr, h, hR, hF, hS, hd⟩
  | i :: l, os, hl, K, σ, w, fr, a, h, hR, hF, hS, hd => by
    cases os with
    | nil => simp at hl
    | cons o os =>
      simp only [List.map_cons, List.cons.injEq] at hl
      obtain ⟨hi, hl⟩ := hl
      have ih : ∀ (K' : Kr) (σ' : List AObj) (w' : World) (fr : Fr) (a' : Act), evOps E ops.toList os fr σ' Q → R K' σ' w' → FR K' σ'.length E.N fr a'.tmps → Step K σ w K' σ' w' → a'.defers = a.defers →
          wpOpsIn (Fw ro) n E.P ops (Done E K0 σ0 w0 ds Q) l a' w' := fun K' σ' w' fr a' h1 h2 h3 h4 h5 => evOps_sound hE l os hl K' σ' w' fr a' h1 h2 h3 (hS.trans h4) (h5.trans hd)
      rw [evOps_cons] at h
      simp only [wpOpsIn, hi]
      split at h
      · exact h.elim
      · rename_i b hb
        have hw := wantA_sound hF hb
        cases b with
        | false =>
          rw [if_neg (by rw [hw]; simp)]
          exact ⟨fun f _ => trivial, next_sound ih (h.2 rfl) hR hF (.refl _ _ _) undef_VR⟩
        | true =>
          rw [if_pos hw]
          exact opIn_sound hE (h.1 rfl) hR hF fun K' σ' w' v c h1 h2 h3 h4 => next_sound ih h1 h2 hF h4 h3

/-- A statement whose order is the text's. -/
theorem ARun.region (hE : EnvOK E) {id : Nat} {ops : Array Oper} {k : List Item} {fr : Fr} {σ : List AObj} {Q : Option Code → Fr → List AObj → Prop}
    (h : evOps E ops.toList ops.toList fr σ fun fr σ => ARun E ro k fr σ Q) : ARun E ro (.code (.region id ops false) :: k) fr σ Q := by
  intro K w a b cs hb hR hF
  have hl : (List.range ops.size).map (fun i => ops[i]?) = ops.toList.map some := by
    apply List.ext_getElem
    · simp
    · intro i h1 h2
      simp at h1 h2 ⊢
  have hw := evOps_sound (ro := b.roundOf) (n := 0) hE (List.range ops.size) ops.toList hl K σ w fr a h hR hF (.refl _ _ _) rfl
  obtain ⟨e, a', w', ⟨rfl, K', σ', fr', hq, h2, h3, h4, h5⟩, harr⟩ := wpIn_region hw b k cs rfl trivial (Fw_room _ _)
  obtain ⟨K2, σ2, fr2, w2, a2, t2, j, ms, g1, g2, g3, g4, g5, g6, g7, g8⟩ := hq K' w' a' b cs (hb.mono h4.ext h4.len) h2 h3
  refine ⟨K2, σ2, fr2, w2, a2, t2, j, ms, g1, (StepsIn.steps harr).trans g2, g3, g4, g5, h4.trans g6, by rw [g7, h5], ?_⟩
  exact ⟨g8.nodup, fun r hr => Nat.le_trans h4.size (g8.lo r hr), g8.heap, g8.free⟩

end Go.Mu
set_option linter.unusedSimpArgs false
set_option linter.unusedVariables false
namespace Go.Mu
open Go

variable {E : Env} {ro : Option Nat} {K : Kr} {n : Nat}

def resA1 (E : Env) (fr : Fr) (σ : List AObj) : ResultVar → Option AV
  | .tmp t => fr.get t
  | .cell a t => match fr.get a with
    | some (.ptr r off) => match hget σ r with
      | some (.cells cs) => subAt off (E.ty t).sz cs (E.ty t).kd.agg
      | _ => none
    | _ => none
def resAs (E : Env) (fr : Fr) (σ : List AObj) : List ResultVar → Option (List AV)
  | [] => some []
  | r :: rs => match resA1 E fr σ r, resAs E fr σ rs with
    | some v, some vs => some (v :: vs)
    | _, _ => none
def oneOf : List AV → AV
  | [v] => v
  | vs => .tup vs

theorem resA1_sound (hE : EnvOK E) {σ : List AObj} {w : World} (hR : R K σ w) {fr : Fr} {a : Act} (hF : FR K σ.length E.N fr a.tmps) {r : ResultVar} {v : AV} (h : resA1 E fr σ r = some v) :
    ∃ c, (match r with | .tmp t => pure (a.tmps.getD t undef) | .cell x t => do loadVar t (← asAddr (a.tmps.getD x undef)) : Sem Value).run E.P w = .ok c w ∧ VR K σ.length v c := by
  cases r with
  | tmp t =>
    obtain ⟨c, h1, h2⟩ := hF.2 t v h
    exact ⟨c, by simp [h1], h2⟩
  | cell x t =>
    simp only [resA1] at h
    split at h
    · rename_i r off hx
      split at h
      · rename_i cs hg
        obtain ⟨c, h1, h2⟩ := hF.2 x _ hx
        obtain ⟨hr, rfl⟩ := h2.ptr_inv
        obtain ⟨f, hc⟩ := cells_of_obj hR hg
        obtain ⟨c, g1, g2⟩ := load_sound (P := E.P) (w := w) hE.ty hc h
        rw [Nat.zero_add] at g1
        exact ⟨c, by simp [h1, asAddr, g1], g2⟩
      · cases h
    · cases h

theorem resAs_sound (hE : EnvOK E) {σ : List AObj} {w : World} (hR : R K σ w) {fr : Fr} {a : Act} (hF : FR K σ.length E.N fr a.tmps) : ∀ {rs : List ResultVar} {vs : List AV}, resAs E fr σ rs = some vs →
    ∃ cs, (rs.mapM fun (r : ResultVar) => (match r with | .tmp t => pure (a.tmps.getD t undef) | .cell x t => do loadVar t (← asAddr (a.tmps.getD x undef)) : Sem Value)).run E.P w = .ok cs w ∧ VRs K σ.length vs cs
  | [], vs, h => by simp [resAs] at h; subst h; exact ⟨[], rfl, .nil⟩
  | r :: rs, vs, h => by
    simp only [resAs] at h
    split at h
    · rename_i v vs' h1 h2
      simp at h; subst h
      obtain ⟨c, g1, g2⟩ := resA1_sound hE hR hF h1
      obtain ⟨cs, g3, g4⟩ := resAs_sound hE hR hF h2
      exact ⟨c :: cs, by simp only [List.mapM_cons, Sem.run_bind, g1, g3, Result.andThen_ok, Sem.run_pure], .cons g2 g4⟩
    · cases h

theorem results_sound (hE : EnvOK E) {σ : List AObj} {w : World} (hR : R K σ w) {fr : Fr} {a : Act} (hF : FR K σ.length E.N fr a.tmps) {fn : Func} {vs : List AV} (h : resAs E fr σ fn.results.toList = some vs) :
    ∃ c, (results fn a.tmps).run E.P w = .ok c w ∧ VR K σ.length (oneOf vs) c := by
  obtain ⟨cs, h1, h2⟩ := resAs_sound hE hR hF h
  have h3 : (fn.results.mapM fun (r : ResultVar) => (match r with | .tmp t => pure (a.tmps.getD t undef) | .cell x t => do loadVar t (← asAddr (a.tmps.getD x undef)) : Sem Value)).run E.P w = .ok cs.toArray w := by
    rw [Array.mapM_eq_mapM_toList, Sem.run_map, h1]; rfl
  have h4 : (results fn a.tmps).run E.P w = .ok (if h : cs.toArray.size = 1 then cs.toArray[0] else .tuple cs.toArray) w := by
    have h5 : (results fn a.tmps).run E.P w = ((fn.results.mapM fun (r : ResultVar) => (match r with | .tmp t => pure (a.tmps.getD t undef) | .cell x t => do loadVar t (← asAddr (a.tmps.getD x undef)) : Sem Value)).run E.P w).andThen
        fun vs w' => .ok (if h : vs.size = 1 then vs[0] else .tuple vs) w' := by
      unfold results
      rw [Sem.run_bind]
      rfl
    rw [h5, h3]; rfl
  refine ⟨_, h4, ?_⟩
  match vs, cs, h2 with
  | [v], [c], h2 => exact h2.head
  | [], [], h2 => exact VRs.tup (cs := #[]) .nil
  | v :: u :: vs, c :: d :: cs, h2 =>
    have : ¬ (c :: d :: cs).toArray.size = 1 := by simp
    rw [dif_neg this]
    exact VRs.tup (cs := (c :: d :: cs).toArray) (by simpa using h2)
  | [], _ :: _, h2 => exact absurd h2.1 (by simp)
  | [_], [], h2 => exact absurd h2.1 (by simp)
  | [_], _ :: _ :: _, h2 => exact absurd h2.1 (by simp)
  | _ :: _ :: _, [], h2 => exact absurd h2.1 (by simp)
  | _ :: _ :: _, [_], h2 => exact absurd h2.1 (by simp)

/-- A block of no live object may turn, if it holds no cells before and behind. -/
theorem R.freeTurn {σ : List AObj} {w : World} (h : R K σ w) {r0 : Nat} (hf : Free K σ r0) (o o' : Obj) (ho : w.heap[r0]? = some o) (hc : ∀ p, w.cell? ⟨r0, p, none⟩ = none) :
    R K σ { w with heap := w.heap.setIfInBounds r0 o' } ∧ (∀ p, K.S r0 p = none) := by
  have hS : ∀ p, K.S r0 p = none := fun p => by
    cases hk : K.S r0 p with
    | none => rfl
    | some v => have := h.stab r0 p v hk; rw [hc p] at this; cases this
  have hother : ∀ b, b ≠ r0 → ({ w with heap := w.heap.setIfInBounds r0 o' } : World).heap[b]? = w.heap[b]? := fun b hb => by
    show (w.heap.setIfInBounds r0 o')[b]? = _
    rw [Array.getElem?_setIfInBounds_ne (Ne.symm hb)]
  have hlt : ∀ {r o}, σ[r]? = some o → r < σ.length := fun h => (List.getElem?_eq_some_iff.1 h).1
  refine ⟨⟨fun b p v hv => ?_, fun r o1 hr => ?_, h.inj⟩, hS⟩
  · have hb : b ≠ r0 := fun e => by subst e; rw [hS p] at hv; cases hv
    rw [cell_of_heap (hother b hb)]; exact h.stab b p v hv
  · exact (h.obj r o1 hr).mono (hlt hr) (.refl _ _) (Nat.le_refl _) rfl fun b hb => ⟨hother b (fun e => hf r o1 hr (e ▸ hb)), fun _ => rfl⟩

theorem step_unmark {P : Program} {b : Frame} {a : Act} {todo : List Item} {cs : List Frame} {w : World} {r : Nat} {ds : List Deferred} (ha : a.defers = mark r :: ds) (hr : w.heap[r]? = some (.deferred (some []))) :
    step P (lone { b.atR a todo with mode := .returning } cs w) = .next (lone { b.atR { a with defers := ds } todo with mode := .returning } cs { w with heap := w.heap.setIfInBounds r (.deferred none) }) := by
  have htake : (Instr.takeDeferred r).run P w = .ok [] { w with heap := w.heap.setIfInBounds r (.deferred none) } := by
    simp [Instr.takeDeferred, getObj, setObj, Sem.run, hr]
  exact step_lone_go (by simp [stepG, unwind, Frame.atR, ha, mark, Sem.runT_eq, htake])

theorem unmarks {P : Program} {b : Frame} {todo : List Item} {cs : List Frame} {σ : List AObj} : ∀ (ms : List Nat) (a : Act) (w : World), a.defers = ms.map mark → R K σ w → Marks K σ w n ms →
    ∃ w', Steps P (lone { b.atR a todo with mode := .returning } cs w) (lone { b.atR { a with defers := [] } todo with mode := .returning } cs w') ∧ R K σ w' ∧ w'.heap.size = w.heap.size ∧ (∀ b, b < n → w'.heap[b]? = w.heap[b]?) ∧
      w'.os = w.os ∧ w'.tape = w.tape ∧ w'.output = w.output ∧ ∀ b : Nat, frz w'.heap[b]? = frz w.heap[b]?
  | [], a, w, ha, hR, hM => ⟨w, by
      have : a = { a with defers := [] } := by cases a; simp at ha; simp [ha]
      rw [← this]; exact .refl _ _, hR, rfl, fun _ _ => rfl, rfl, rfl, rfl, fun _ => rfl⟩
  | r :: ms, a, w, ha, hR, hM => by
    have hh := hM.heap r (by simp)
    have hcell : ∀ p, w.cell? ⟨r, p, none⟩ = none := fun p => by simp [World.cell?, hh]
    obtain ⟨hR', _⟩ := hR.freeTurn (hM.free r (by simp)) _ (.deferred none) hh hcell
    have hnd := List.nodup_cons.1 hM.nodup
    obtain ⟨w', h1, h2, h3, h4, h5, h6, h7, h8⟩ := unmarks (P := P) (b := b) (todo := todo) (cs := cs) ms { a with defers := ms.map mark } _ rfl hR' ⟨hnd.2, fun q hq => hM.lo q (by simp [hq]), fun q hq => by
      show (w.heap.setIfInBounds r _)[q]? = _
      rw [Array.getElem?_setIfInBounds_ne (fun e => by subst e; exact hnd.1 hq)]
      exact hM.heap q (by simp [hq]), fun q hq => hM.free q (by simp [hq])⟩
    refine ⟨w', .head (step_unmark (ds := ms.map mark) (by simpa using ha) hh) h1, h2, by rw [h3]; simp, fun b hb => ?_, h5, h6, h7, fun b => (h8 b).trans ?_⟩
    rw [h4 b hb]
    show (w.heap.setIfInBounds r _)[b]? = _
    rw [Array.getElem?_setIfInBounds_ne]
    have := hM.lo r (by simp); omega
    · show frz (w.heap.setIfInBounds r _)[b]? = _
      by_cases e : r = b
      · subst e
        rw [hh, Array.getElem?_setIfInBounds_self]
        split <;> rfl
      · rw [Array.getElem?_setIfInBounds_ne e]

/-- The frame in which a function begins. -/
def number : Nat → List AV → List (Nat × AV)
  | _, [] => []
  | i, v :: vs => (i, v) :: number (i + 1) vs
theorem lookA_number : ∀ (vs : List AV) (i t : Nat) (v : AV), lookA (number i vs) t = some v → i ≤ t ∧ vs[t - i]? = some v
  | [], i, t, v, h => by simp [number, lookA] at h
  | u :: vs, i, t, v, h => by
    simp only [number, lookA] at h
    by_cases e : i = t
    · subst e; simp at h; subst h; exact ⟨Nat.le_refl _, by simp⟩
    · rw [if_neg e] at h
      obtain ⟨h1, h2⟩ := lookA_number vs (i + 1) t v h
      refine ⟨by omega, ?_⟩
      have : t - i = (t - (i + 1)) + 1 := by omega
      rw [this]; simpa using h2

/-- A CALL, FROM THE RUN OF THE BODY. -/
theorem ACalls.of_run (hE : EnvOK E) {f : FuncId} {fn : Func} {c : Code} {args : List AV} {σ : List AObj} {Q : AV → List AObj → Prop} (kp : Nat → Bool) (hf : E.P.funcs[f]? = some fn) (hb : fn.body = some c) (hN : fn.ntmps = E.N) (hA : args.length ≤ E.N)
    (hC : Callable E.P f)
    (h : ARun E none [.code c] ⟨kp, [], number 0 args⟩ σ fun j fr σ' => (j = none ∨ j = some .ret) ∧ ∃ vs, resAs E fr σ' fn.results.toList = some vs ∧ Q (oneOf vs) σ') : ACalls E.P f args σ Q := by
  refine ⟨hC, fun K w cargs hR hV cs => ?_⟩
  let b : Frame := { (default : Frame) with fn := f, kind := .normal, roundOf := none }
  have hcl : cargs.size = args.length := by have := hV.1; simpa using this.symm
  have henter : Frame.enter E.P f cargs .normal = b.atR { tmps := cargs ++ Array.replicate (fn.ntmps - cargs.size) undef, defers := [] } [.code c] := by
    simp [Frame.enter, Frame.atR, hf, hb, b]
  have hF : FR K σ.length E.N ⟨kp, [], number 0 args⟩ (cargs ++ Array.replicate (fn.ntmps - cargs.size) undef) := by
    refine ⟨by simp; omega, fun t v hv => ?_⟩
    have hv' : (if kp t = true then lookA (number 0 args) t else lookA [] t) = some v := hv
    split at hv'
    · obtain ⟨_, h2⟩ := lookA_number args 0 t v hv'
      obtain ⟨c, h3, h4⟩ := hV.get (i := t) (by simpa using h2)
      have hlt : t < cargs.size := by
        have := (List.getElem?_eq_some_iff.1 h3).1; simpa using this
      refine ⟨c, ?_, h4⟩
      rw [Array.getElem?_append_left hlt]
      simpa using h3
    · cases hv'
  obtain ⟨K', σ', fr', w', a', todo', j, ms, h1, h2, ⟨hj, vs, h3, h4⟩, h5, h6, h7, h8, h9⟩ := h K w { tmps := cargs ++ Array.replicate (fn.ntmps - cargs.size) undef, defers := [] } b cs rfl hR hF
  simp only [List.append_nil] at h8
  have hret : Steps E.P (lone (b.atR a' todo') cs w') (lone { b.atR a' todo' with mode := .returning } cs w') := by
    cases h1 with
    | nil => exact .one (stepR_end rfl)
    | ret k => exact .one (stepR_ret rfl)
    | exit id k hk => rcases hj with hj | hj <;> cases hj
  obtain ⟨w2, g1, g2, g3, g4, g5, g6, g7, g8⟩ := unmarks (P := E.P) (b := b) (todo := todo') (cs := cs) (n := w.heap.size) ms a' w' h8 h5 h9
  obtain ⟨c', k1, k2⟩ := results_sound hE g2 (a := { a' with defers := [] }) h6 h3
  refine ⟨.returned c', w2, { b.atR { a' with defers := [] } todo' with mode := .returning }, ⟨_, c', σ', K', rfl, h4, k2, g2, ?_⟩, ?_, rfl, rfl, rfl, rfl, fn, hf, k1⟩
  · exact ⟨h7.ext, h7.len, by rw [g3]; exact h7.size, fun q hq hfree => by
      obtain ⟨l1, l2, l3⟩ := h7.keep q hq hfree
      exact ⟨(g4 q hq).trans l1, l2, l3⟩, g5.trans h7.os, g6.trans h7.tape, g7.trans h7.output, fun b => (g8 b).trans (h7.froz b)⟩
  · rw [henter]
    exact (h2.trans hret).trans g1

end Go.Mu
set_option linter.unusedSimpArgs false
set_option linter.unusedVariables false
namespace Go.Mu
open Go

variable {E : Env} {ro : Option Nat} {K : Kr}

abbrev Post := Option Code → Fr → List AObj → Prop

theorem evOp_mono {fr : Fr} {σ : List AObj} {type : TypeId} {op : Op} {X Y : AV → List AObj → Prop} (hn : ∀ v σ, X v σ → Y v σ) (h : evOp E fr σ type op X) : evOp E fr σ type op Y := by
  have hplain : (match aop E fr σ type op with | some (v, σ') => X v σ' | none => False) → (match aop E fr σ type op with | some (v, σ') => Y v σ' | none => False) := fun h => by
    split at h
    · exact hn _ _ h
    · exact h.elim
  cases op with
  | call c =>
    obtain ⟨callee, args, ats⟩ := c
    cases callee with
    | builtin b => exact hplain h
    | value f =>
      simp only [evOp] at h ⊢
      split at h
      · exact callA_mono hn h
      · intro K w cargs hR hV
        obtain ⟨fn, tmps, assign, body, h1, h2⟩ := h K w cargs hR hV
        exact ⟨fn, tmps, assign, body, h1, h2.mono fun e w' ⟨v, c, σ', K', g1, g2, g3⟩ => ⟨v, c, σ', K', g1, hn _ _ g2, g3⟩⟩
      · exact h.elim
    | invoke r m =>
      simp only [evOp] at h ⊢
      split at h
      · split at h
        · exact callA_mono hn h
        · exact h.elim
      · exact h.elim
  | next it b =>
    simp only [evOp] at h ⊢
    split at h
    · exact h.elim
    · rename_i hb; rw [if_neg hb]; exact nextA_mono hn h
  | _ => exact hplain h
theorem evOps_mono {all : List Oper} {Q Q' : Fr → List AObj → Prop} (hq : ∀ fr σ, Q fr σ → Q' fr σ) : ∀ {os : List Oper} {fr : Fr} {σ : List AObj}, evOps E all os fr σ Q → evOps E all os fr σ Q'
  | [], fr, σ, h => hq _ _ h
  | o :: os, fr, σ, h => by
    rw [evOps_cons] at h ⊢
    have hn : ∀ v σ', evNext E all os o.dst fr Q v σ' → evNext E all os o.dst fr Q' v σ' := fun v σ' h => by
      unfold evNext at h ⊢
      split at h
      · exact evOps_mono hq h
      · exact ⟨h.1, evOps_mono hq h.2⟩
    split at h
    · exact h
    · exact ⟨fun hb => evOp_mono hn (h.1 hb), fun hb => hn _ _ (h.2 hb)⟩

theorem anew_FR {n N : Nat} {fr : Fr} {a : Act} (h : FR K n N fr a.tmps) : FR K n N fr.anew a.tmps := ⟨h.1, fun t v hv => h.2 t v (Fr.get_anew hv)⟩
theorem ARun.anew {todo : List Item} {fr : Fr} {σ : List AObj} {Q : Post} (h : ARun E ro todo fr.anew σ Q) : ARun E ro todo fr σ Q :=
  fun K w a b cs hb hR hF => h K w a b cs hb hR (anew_FR hF)

section congrs
variable {n : Nat} {k : List Item} {fr : Fr} {σ : List AObj} {Q : Post}
@[congr] theorem ARun_congr {todo : List Item} {fr fr' : Fr} {σ σ' : List AObj} {Q : Post} (h1 : fr = fr') (h2 : σ = σ') : ARun E ro todo fr σ Q = ARun E ro todo fr' σ' Q := by rw [h1, h2]
@[congr] theorem evOps_congr {all os : List Oper} {fr fr' : Fr} {σ σ' : List AObj} {Q : Fr → List AObj → Prop} (h1 : fr = fr') (h2 : σ = σ') : evOps E all os fr σ Q = evOps E all os fr' σ' Q := by rw [h1, h2]
@[congr] theorem evNext_congr {all os : List Oper} {dst : Option Tmp} {fr fr' : Fr} {Q : Fr → List AObj → Prop} {v v' : AV} {σ σ' : List AObj} (h1 : fr = fr') (h2 : v = v') (h3 : σ = σ') : evNext E all os dst fr Q v σ = evNext E all os dst fr' Q v' σ' := by rw [h1, h2, h3]
@[congr] theorem ACalls_congr {P : Program} {f : FuncId} {args args' : List AV} {σ σ' : List AObj} {Q : AV → List AObj → Prop} (h1 : args = args') (h2 : σ = σ') : ACalls P f args σ Q = ACalls P f args' σ' Q := by rw [h1, h2]
@[congr] theorem AYield_congr {P : Program} {f : FuncId} {args args' : List AV} {σ σ' : List AObj} {Q : AV → List AObj → Prop} (h1 : args = args') (h2 : σ = σ') : AYield P f args σ Q = AYield P f args' σ' Q := by rw [h1, h2]
@[congr] theorem evOp_congr {fr : Fr} {σ σ' : List AObj} {type : TypeId} {op : Op} {Q : AV → List AObj → Prop} (h2 : σ = σ') : evOp E fr σ type op Q = evOp E fr σ' type op Q := by rw [h2]
@[congr] theorem wantA_congr {ds : List Oper} {fr : Fr} {g : Option (Nat × Bool)} : wantA ds fr g = wantA ds fr g := rfl
end congrs

section ops
variable {all os : List Oper} {fr : Fr} {σ : List AObj} {Q : Fr → List AObj → Prop} {type : TypeId} {X : AV → List AObj → Prop}
theorem evOps_nil : evOps E all [] fr σ Q = Q fr σ := rfl
theorem evOps_plain {dst : Option Tmp} {op : Op} {pos : String} {after : Array Edge} : evOps E all (⟨dst, op, type, pos, after, none⟩ :: os) fr σ Q = evOp E fr σ type op (evNext E all os dst fr Q) := by
  rw [evOps_cons]; simp [wantA]
/-- The operation to which a condition points. -/
def dstOf : List Oper → Nat → Option Tmp
  | [], _ => none
  | o :: _, 0 => o.dst
  | _ :: os, j + 1 => dstOf os j
theorem dstOf_eq : ∀ (l : List Oper) (j : Nat), (l[j]?).bind (·.dst) = dstOf l j
  | [], _ => by simp [dstOf]
  | o :: _, 0 => by simp [dstOf]
  | _ :: os, j + 1 => by simp [dstOf, dstOf_eq os j]
@[congr] theorem dstOf_congr {l : List Oper} {j : Nat} : dstOf l j = dstOf l j := rfl
theorem dstOf_zero {o : Oper} {l : List Oper} : dstOf (o :: l) 0 = o.dst := rfl
theorem dstOf_succ {o : Oper} {l : List Oper} {j : Nat} : dstOf (o :: l) (j + 1) = dstOf l j := rfl
theorem evOps_guard {dst : Option Tmp} {op : Op} {pos : String} {after : Array Edge} {j : Nat} {want : Bool} : evOps E all (⟨dst, op, type, pos, after, some (j, want)⟩ :: os) fr σ Q =
    match dstOf all j with
    | none => False
    | some d => match fr.get d with
      | some (.bool b) => (b = want → evOp E fr σ type op (evNext E all os dst fr Q)) ∧ (b = !want → evNext E all os dst fr Q (.tup []) σ)
      | some (.tup []) => evNext E all os dst fr Q (.tup []) σ
      | _ => False := by
  rw [evOps_cons]
  simp only [wantA, dstOf_eq]
  cases dstOf all j with
  | none => rfl
  | some d =>
    simp only
    cases h : fr.get d with
    | none => rfl
    | some v =>
      cases v with
      | bool b => cases b <;> cases want <;> simp
      | tup vs => cases vs <;> simp
      | _ => rfl
theorem evNext_none {v : AV} : evNext E all os none fr Q v σ = evOps E all os fr σ Q := rfl
theorem evNext_some {d : Tmp} {v : AV} : evNext E all os (some d) fr Q v σ = (d < E.N ∧ evOps E all os (fr.put d v) σ Q) := rfl

/-- One result of an operation. -/
def giveA (X : AV → List AObj → Prop) (σ : List AObj) : Option AV → Prop
  | some v => X v σ
  | none => False
def give2 (X : AV → List AObj → Prop) : Option (AV × List AObj) → Prop
  | some (v, σ) => X v σ
  | none => False
@[congr] theorem giveA_congr {σ σ' : List AObj} {v v' : Option AV} (h2 : σ = σ') (h1 : v = v') : giveA X σ v = giveA X σ' v' := by rw [h1, h2]
@[congr] theorem give2_congr {v v' : Option (AV × List AObj)} (h1 : v = v') : give2 X v = give2 X v' := by rw [h1]
theorem giveA_some {v : AV} : giveA X σ (some v) = X v σ := rfl
theorem give2_some {v : AV} : give2 X (some (v, σ)) = X v σ := rfl

theorem evOp_of_pop {op : Op} (h1 : ∀ K, evOp E fr σ type op K = match aop E fr σ type op with | some (v, σ') => K v σ' | none => False) (h2 : litOp E.ty fr op = none) (h3 : hop E.ty fr σ op = none) : evOp E fr σ type op X = giveA X σ (pop E.ty fr type op) := by
  rw [h1]
  unfold aop
  cases pop E.ty fr type op with
  | some v => rfl
  | none => simp [h2, h3, giveA]
theorem evOp_move {x : Operand} : evOp E fr σ type (.move x) X = giveA X σ (pop E.ty fr type (.move x)) := evOp_of_pop (fun _ => rfl) rfl rfl
theorem evOp_assign {x : Operand} : evOp E fr σ type (.assign x) X = giveA X σ (pop E.ty fr type (.assign x)) := evOp_of_pop (fun _ => rfl) rfl rfl
theorem evOp_pick {c x y : Operand} : evOp E fr σ type (.pick c x y) X = giveA X σ (pop E.ty fr type (.pick c x y)) := evOp_of_pop (fun _ => rfl) rfl rfl
theorem evOp_build {t : TypeId} {p : Array (Nat × Operand)} : evOp E fr σ type (.build t p) X = giveA X σ (pop E.ty fr type (.build t p)) := evOp_of_pop (fun _ => rfl) rfl rfl
theorem evOp_fieldAddr {t : TypeId} {x : Operand} {f : Nat} : evOp E fr σ type (.fieldAddr t x f) X = giveA X σ (pop E.ty fr type (.fieldAddr t x f)) := evOp_of_pop (fun _ => rfl) rfl rfl
theorem evOp_field {t : TypeId} {x : Operand} {f : Nat} : evOp E fr σ type (.field t x f) X = giveA X σ (pop E.ty fr type (.field t x f)) := evOp_of_pop (fun _ => rfl) rfl rfl
theorem evOp_index {t : TypeId} {x i : Operand} : evOp E fr σ type (.index t x i) X = giveA X σ (pop E.ty fr type (.index t x i)) := evOp_of_pop (fun _ => rfl) rfl rfl
theorem evOp_indexAddr {t : TypeId} {x i : Operand} : evOp E fr σ type (.indexAddr t x i) X = giveA X σ (pop E.ty fr type (.indexAddr t x i)) := evOp_of_pop (fun _ => rfl) rfl rfl
theorem evOp_nilCheck {x : Operand} : evOp E fr σ type (.nilCheck x) X = giveA X σ (pop E.ty fr type (.nilCheck x)) := evOp_of_pop (fun _ => rfl) rfl rfl
theorem evOp_binOp {op : BinOp} {t u : TypeId} {x y : Operand} : evOp E fr σ type (.binOp op t x y u) X = giveA X σ (pop E.ty fr type (.binOp op t x y u)) := evOp_of_pop (fun _ => rfl) rfl rfl
/-- A truth value: both ways at once. -/
def giveB (X : AV → List AObj → Prop) (σ : List AObj) : Option AV → Prop
  | some (.bool b) => (b = true → X (.bool true) σ) ∧ (b = false → X (.bool false) σ)
  | some v => X v σ
  | none => False
theorem giveB_eq {v : Option AV} : giveB X σ v = giveA X σ v := by
  cases v with
  | none => rfl
  | some v =>
    cases v with
    | bool b => cases b <;> simp [giveB, giveA]
    | _ => rfl
@[congr] theorem giveB_congr {σ σ' : List AObj} {v v' : Option AV} (h2 : σ = σ') (h1 : v = v') : giveB X σ v = giveB X σ' v' := by rw [h1, h2]
theorem giveB_bool {b : Bool} : giveB X σ (some (.bool b)) = ((b = true → X (.bool true) σ) ∧ (b = false → X (.bool false) σ)) := rfl
theorem giveB_int {k : IntKind} {i : Int} : giveB X σ (some (.int k i)) = X (.int k i) σ := rfl
theorem giveB_str {s : ByteArray} : giveB X σ (some (.str s)) = X (.str s) σ := rfl
theorem evOp_bin {op : BinOp} {t u : TypeId} {x y : Operand} : evOp E fr σ type (.binOp op t x y u) X = giveB X σ (pop E.ty fr type (.binOp op t x y u)) := by rw [giveB_eq]; exact evOp_binOp
theorem evOp_unOp {op : UnOp} {t : TypeId} {x : Operand} : evOp E fr σ type (.unOp op t x) X = giveA X σ (pop E.ty fr type (.unOp op t x)) := evOp_of_pop (fun _ => rfl) rfl rfl
theorem evOp_convert {s t : TypeId} {x : Operand} : evOp E fr σ type (.convert s t x) X = giveA X σ (pop E.ty fr type (.convert s t x)) := evOp_of_pop (fun _ => rfl) rfl rfl
theorem evOp_makeInterface {t : TypeId} {x : Operand} : evOp E fr σ type (.makeInterface t x) X = giveA X σ (pop E.ty fr type (.makeInterface t x)) := evOp_of_pop (fun _ => rfl) rfl rfl
theorem evOp_makeFunc {f : Fn} {x y : Array Operand} : evOp E fr σ type (.makeFunc f x y) X = giveA X σ (pop E.ty fr type (.makeFunc f x y)) := evOp_of_pop (fun _ => rfl) rfl rfl
theorem evOp_extract {x : Operand} {i : Nat} : evOp E fr σ type (.extract x i) X = giveA X σ (pop E.ty fr type (.extract x i)) := evOp_of_pop (fun _ => rfl) rfl rfl
theorem evOp_typeAssert {x : Operand} {s t : TypeId} {ok : Bool} : evOp E fr σ type (.typeAssert x s t ok) X = giveA X σ (pop E.ty fr type (.typeAssert x s t ok)) := evOp_of_pop (fun _ => rfl) rfl rfl
theorem evOp_slice {t : TypeId} {x : Operand} {lo hi mx : Option Operand} : evOp E fr σ type (.slice t x lo hi mx) X = giveA X σ (pop E.ty fr type (.slice t x lo hi mx)) := evOp_of_pop (fun _ => rfl) rfl rfl
theorem evOp_len {args : Array Operand} {ats : Array TypeId} : evOp E fr σ type (.call ⟨.builtin .len, args, ats⟩) X = giveA X σ (pop E.ty fr type (.call ⟨.builtin .len, args, ats⟩)) := evOp_of_pop (fun _ => rfl) rfl rfl
def lenO (k : TK) : Option AV → Option AV
  | some (.list _ _ xs) => (match k with | .slice _ => some (.int .i64 xs.length) | _ => none)
  | some (.arr _ _ n) => (match k with | .slice _ => some (.int .i64 n) | _ => none)
  | some (.str s) => (match k with | .str => some (.int .i64 s.size) | _ => none)
  | _ => none
theorem evOp_len1 {x : Operand} {t : TypeId} : evOp E fr σ type (.call ⟨.builtin .len, #[x], #[t]⟩) X = giveA X σ (lenO (E.ty t).kd (aeval fr x)) := by
  rw [evOp_len]
  simp only [pop, aevals, List.getElem?_toArray, List.getElem?_cons_zero]
  cases aeval fr x with
  | none => rfl
  | some v =>
    simp only
    cases v <;> cases (E.ty t).kd <;> rfl
theorem evOp_max {args : Array Operand} {ats : Array TypeId} : evOp E fr σ type (.call ⟨.builtin .max, args, ats⟩) X = giveA X σ (pop E.ty fr type (.call ⟨.builtin .max, args, ats⟩)) := evOp_of_pop (fun _ => rfl) rfl rfl
theorem evOp_min {args : Array Operand} {ats : Array TypeId} : evOp E fr σ type (.call ⟨.builtin .min, args, ats⟩) X = giveA X σ (pop E.ty fr type (.call ⟨.builtin .min, args, ats⟩)) := evOp_of_pop (fun _ => rfl) rfl rfl
theorem evOp_buildSlice {t : TypeId} {n : Nat} {p : Array (Nat × Operand)} : evOp E fr σ type (.buildSlice t n p) X = giveA X σ (litOp E.ty fr (.buildSlice t n p)) := by
  show (match aop E fr σ type (.buildSlice t n p) with | some (v, σ') => X v σ' | none => False) = _
  have h : aop E fr σ type (.buildSlice t n p) = (litOp E.ty fr (.buildSlice t n p)).map fun v => (v, σ) := by
    show (match litOp E.ty fr (.buildSlice t n p) with | some v => some (v, σ) | none => hop E.ty fr σ (.buildSlice t n p)) = _
    cases litOp E.ty fr (.buildSlice t n p) <;> rfl
  rw [h]
  cases litOp E.ty fr (.buildSlice t n p) <;> rfl
theorem evOp_of_hop {op : Op} (h1 : ∀ K, evOp E fr σ type op K = match aop E fr σ type op with | some (v, σ') => K v σ' | none => False) (h2 : litOp E.ty fr op = none) (h3 : pop E.ty fr type op = none) : evOp E fr σ type op X = give2 X (hop E.ty fr σ op) := by
  rw [h1]; unfold aop; simp only [h2, h3]
  cases hop E.ty fr σ op with
  | none => rfl
  | some p => rfl
theorem evOp_alloc {t : TypeId} : evOp E fr σ type (.alloc t) X = give2 X (hop E.ty fr σ (.alloc t)) := evOp_of_hop (fun _ => rfl) rfl rfl
theorem evOp_box {t : TypeId} {x : Operand} : evOp E fr σ type (.box t x) X = give2 X (hop E.ty fr σ (.box t x)) := evOp_of_hop (fun _ => rfl) rfl rfl
theorem evOp_load {t : TypeId} {x : Operand} : evOp E fr σ type (.load t x) X = give2 X (hop E.ty fr σ (.load t x)) := evOp_of_hop (fun _ => rfl) rfl rfl
theorem evOp_store {t : TypeId} {x y : Operand} : evOp E fr σ type (.store t x y) X = give2 X (hop E.ty fr σ (.store t x y)) := evOp_of_hop (fun _ => rfl) rfl rfl
theorem evOp_append {args : Array Operand} {ats : Array TypeId} : evOp E fr σ type (.call ⟨.builtin .append, args, ats⟩) X = give2 X (hop E.ty fr σ (.call ⟨.builtin .append, args, ats⟩)) := by
  refine evOp_of_hop (fun _ => rfl) rfl ?_
  simp only [pop]
theorem evOp_call {f : Operand} {args : Array Operand} {ats : Array TypeId} : evOp E fr σ type (.call ⟨.value f, args, ats⟩) X = match aeval fr f, aevals fr args.toList with
    | some (.fn (.func g) p q), some as => callA E g (p ++ as ++ q) σ X
    | some (.yield r), some as => AYield E.P r as σ X
    | _, _ => False := rfl
theorem evOp_invoke {r : Operand} {m : String} {args : Array Operand} {ats : Array TypeId} : evOp E fr σ type (.call ⟨.invoke r m, args, ats⟩) X = match aeval fr r, aevals fr args.toList with
    | some (.iface t v), some as => match E.mt t m with
      | some g => callA E g (v :: as) σ X
      | none => False
    | _, _ => False := rfl

theorem evOp_next {it : Operand} : evOp E fr σ type (.next it false) X = nextA X σ (aeval fr it) := by
  show (if false = true then False else nextA X σ (aeval fr it)) = _
  rw [if_neg (by simp)]
theorem evOp_makeMap {t : TypeId} : evOp E fr σ type (.makeMap t none) X = give2 X (hop E.ty fr σ (.makeMap t none)) := evOp_of_hop (fun _ => rfl) rfl rfl
theorem evOp_lookup {t : TypeId} {m k : Operand} {ok : Bool} : evOp E fr σ type (.lookup t m k ok) X = give2 X (hop E.ty fr σ (.lookup t m k ok)) := evOp_of_hop (fun _ => rfl) rfl rfl
theorem evOp_mapUpdate {t : TypeId} {m k x : Operand} : evOp E fr σ type (.mapUpdate t m k x) X = give2 X (hop E.ty fr σ (.mapUpdate t m k x)) := evOp_of_hop (fun _ => rfl) rfl rfl
theorem evOp_range {t : TypeId} {m : Operand} : evOp E fr σ type (.range t m) X = give2 X (hop E.ty fr σ (.range t m)) := evOp_of_hop (fun _ => rfl) rfl rfl
theorem evOp_entry {it : Operand} : evOp E fr σ type (.entry it) X = give2 X (hop E.ty fr σ (.entry it)) := evOp_of_hop (fun _ => rfl) rfl rfl
theorem callA_none {g : FuncId} {as : List AV} (h : E.fs g as = none) : callA E g as σ X = ACalls E.P g as σ X := by unfold callA; rw [h]
theorem callA_some {g : FuncId} {as : List AV} {v : AV} (h : E.fs g as = some v) : callA E g as σ X = X v σ := by unfold callA; rw [h]
def callO (P : Program) (g : FuncId) (as : List AV) (σ : List AObj) (X : AV → List AObj → Prop) : Option AV → Prop
  | some v => X v σ
  | none => ACalls P g as σ X
theorem callA_eq {g : FuncId} {as : List AV} : callA E g as σ X = callO E.P g as σ X (E.fs g as) := by unfold callA callO; cases E.fs g as <;> rfl
theorem callO_some {P : Program} {g : FuncId} {as : List AV} {v : AV} : callO P g as σ X (some v) = X v σ := rfl
theorem callO_none {P : Program} {g : FuncId} {as : List AV} : callO P g as σ X none = ACalls P g as σ X := rfl
@[congr] theorem callA_congr {g : FuncId} {as as' : List AV} {σ σ' : List AObj} (h1 : as = as') (h2 : σ = σ') : callA E g as σ X = callA E g as' σ' X := by rw [h1, h2]
@[congr] theorem callO_congr {P : Program} {g : FuncId} {as as' : List AV} {σ σ' : List AObj} {v v' : Option AV} (h1 : as = as') (h2 : σ = σ') (h3 : v = v') : callO P g as σ X v = callO P g as' σ' X v' := by rw [h1, h2, h3]
@[congr] theorem nextA_congr {σ σ' : List AObj} {v v' : Option AV} (h2 : σ = σ') (h3 : v = v') : nextA X σ v = nextA X σ' v' := by rw [h2, h3]

end ops

/-- Types, told by closed facts. -/
theorem TyOK.of {P : Program} {t : Nat} {i : TI} (d : TypeDesc) (h1 : (P.info? t).map (fun i => (i.size, i.bytes)) = some (i.sz, i.bytes)) (h2 : ((P.info? t).bind (·.zero)).bind ofVal = some i.zero) (h3 : i.zero.flat = true)
    (h4 : P.underlying t = some d) (h5 : KdOK d i.kd) : TyOK P t i := by
  refine ⟨?_, d, h4, h5⟩
  cases hi : P.info? t with
  | none => rw [hi] at h1; cases h1
  | some ti =>
    rw [hi] at h1 h2
    simp only [Option.map_some, Option.some.injEq, Prod.mk.injEq] at h1
    simp only [Option.bind_some] at h2
    cases hz : ti.zero with
    | none => rw [hz] at h2; cases h2
    | some z => rw [hz] at h2; exact ⟨ti, rfl, h1.1, h1.2, ⟨z, hz, h2⟩, h3⟩

def tyOf (l : List (Nat × TI)) (t : Nat) : TI := (l.find? (fun p => p.1 == t)).elim { sz := 0, bytes := 0, kd := .other, zero := .tup [] } (·.2)
theorem tys_of {P : Program} {l : List (Nat × TI)} (h : ∀ p ∈ l, TyOK P p.1 p.2) : TysOK P (tyOf l) := by
  intro t ht
  unfold tyOf at ht ⊢
  cases hf : l.find? (fun p => p.1 == t) with
  | none => rw [hf] at ht; exact absurd rfl ht
  | some p =>
    have h1 := h p (List.mem_of_find?_eq_some hf)
    have h2 := List.find?_some hf
    simp at h2
    subst h2
    exact h1
end Go.Mu
set_option linter.unusedSimpArgs false
set_option linter.unusedVariables false
namespace Go.Mu
open Go

variable {E : Env} {ro : Option Nat} {K : Kr}

def Fr.only (fr : Fr) (ns : List Nat) : Fr := ⟨fr.kp, fr.tm.filter (fun p => ns.contains p.1), fr.sl.filter (fun p => ns.contains p.1)⟩
theorem lookA_filter (ns : List Nat) (t : Nat) : ∀ l : List (Nat × AV), lookA (l.filter (fun p => ns.contains p.1)) t = if ns.contains t then lookA l t else none
  | [] => by simp [lookA]
  | (d, v) :: l => by
    have ih := lookA_filter ns t l
    by_cases hd : ns.contains d = true
    · rw [List.filter_cons_of_pos (by simpa using hd)]
      simp only [lookA]
      by_cases e : d = t
      · subst e; simp only [if_true, hd]
      · simp only [if_neg e, ih]
    · rw [List.filter_cons_of_neg (by simpa using hd)]
      simp only [lookA, ih]
      by_cases e : d = t
      · subst e; simp only [hd, if_false, Bool.false_eq_true]
      · simp only [if_neg e]
theorem Fr.get_only (fr : Fr) (ns : List Nat) (t : Nat) : (fr.only ns).get t = if ns.contains t then fr.get t else none := by
  show (if fr.kp t = true then lookA (fr.sl.filter _) t else lookA (fr.tm.filter _) t) = _
  rw [lookA_filter, lookA_filter]
  unfold Fr.get
  by_cases h : fr.kp t = true <;> by_cases g : ns.contains t = true <;> simp [h, g]

/-- Two frames look alike to these operands. -/
def Like (fr fr' : Fr) (xs : List Operand) : Prop := ∀ x ∈ xs, aeval fr x = aeval fr' x
variable {fr fr' : Fr}
theorem Like.aevals : ∀ {xs : List Operand}, Like fr fr' xs → aevals fr xs = aevals fr' xs
  | [], _ => rfl
  | x :: xs, h => by simp only [Mu.aevals, h x (by simp), Like.aevals (xs := xs) (fun y hy => h y (by simp [hy]))]
theorem Like.apart : ∀ {ps : List (Nat × Operand)}, Like fr fr' (ps.map (·.2)) → apart fr ps = apart fr' ps
  | [], _ => rfl
  | (i, x) :: ps, h => by simp only [Mu.apart, h x (by simp), Like.apart (ps := ps) (fun y hy => h y (by simp at hy ⊢; exact .inr hy))]

theorem pop_like {ty : Nat → TI} {type : TypeId} (op : Op) (h : Like fr fr' op.operands.toList) : pop ty fr type op = pop ty fr' type op := by
  cases op with
  | build t ps => simp only [pop]; rw [Like.apart (ps := ps.toList) (fun x hx => h x (by simpa [Op.operands] using hx))]
  | makeFunc f x y =>
    simp only [pop]
    rw [Like.aevals (xs := x.toList) (fun z hz => h z (by simp at hz; simp [Op.operands, hz])), Like.aevals (xs := y.toList) (fun z hz => h z (by simp at hz; simp [Op.operands, hz]))]
  | slice t x lo hi mx =>
    have hx := h x (by simp [Op.operands])
    have hlo : ∀ y, lo = some y → aeval fr y = aeval fr' y := fun y e => h y (by subst e; simp [Op.operands])
    have hhi : ∀ y, hi = some y → aeval fr y = aeval fr' y := fun y e => h y (by subst e; simp [Op.operands])
    cases lo with
    | none => cases hi with
      | none => simp only [pop, hx]
      | some y => simp only [pop, hx, hhi y rfl]
    | some z => cases hi with
      | none => simp only [pop, hx, hlo z rfl]
      | some y => simp only [pop, hx, hhi y rfl, hlo z rfl]
  | call c =>
    obtain ⟨callee, args, ats⟩ := c
    cases callee with
    | builtin b => 
      have := Like.aevals (xs := args.toList) (fun z hz => h z (by simp at hz; simp [Op.operands, Call.operands, hz]))
      cases b <;> simp only [pop, this]
    | _ => simp only [pop]
  | _ =>
    first
      | rfl
      | (simp only [Like, Op.operands, List.mem_cons, List.not_mem_nil, or_false, forall_eq_or_imp, forall_eq] at h; simp only [pop, h])
theorem lit_like {ty : Nat → TI} (op : Op) (h : Like fr fr' op.operands.toList) : litOp ty fr op = litOp ty fr' op := by
  cases op with
  | buildSlice t n ps => simp only [litOp]; rw [Like.apart (ps := ps.toList) (fun x hx => h x (by simpa [Op.operands] using hx))]
  | _ => rfl
theorem hop_like {ty : Nat → TI} {σ : List AObj} (op : Op) (h : Like fr fr' op.operands.toList) : hop ty fr σ op = hop ty fr' σ op := by
  cases op with
  | call c =>
    obtain ⟨callee, args, ats⟩ := c
    cases callee with
    | builtin b => 
      have := Like.aevals (xs := args.toList) (fun z hz => h z (by simp at hz; simp [Op.operands, Call.operands, hz]))
      cases b <;> simp only [hop, this]
    | _ => simp only [hop]
  | makeMap t m => cases m <;> rfl
  | _ =>
    first
      | rfl
      | (simp only [Like, Op.operands, List.mem_cons, List.not_mem_nil, or_false, forall_eq_or_imp, forall_eq] at h; simp only [hop, h])
theorem aop_like {σ : List AObj} {type : TypeId} (op : Op) (h : Like fr fr' op.operands.toList) : aop E fr σ type op = aop E fr' σ type op := by
  unfold aop; rw [pop_like op h, lit_like op h, hop_like op h]
theorem evOp_like {σ : List AObj} {type : TypeId} {X : AV → List AObj → Prop} (op : Op) (h : Like fr fr' op.operands.toList) : evOp E fr σ type op X = evOp E fr' σ type op X := by
  cases op with
  | call c =>
    obtain ⟨callee, args, ats⟩ := c
    cases callee with
    | builtin b => simp only [evOp, aop_like _ h]
    | value f =>
      have h1 := h f (by simp [Op.operands, Call.operands])
      have h2 := Like.aevals (xs := args.toList) (fun z hz => h z (by simp at hz; simp [Op.operands, Call.operands, hz]))
      simp only [evOp, h1, h2]
    | invoke f m =>
      have h1 := h f (by simp [Op.operands, Call.operands])
      have h2 := Like.aevals (xs := args.toList) (fun z hz => h z (by simp at hz; simp [Op.operands, Call.operands, hz]))
      simp only [evOp, h1, h2]
  | next it b =>
    have h1 := h it (by simp [Op.operands])
    simp only [evOp, h1]
  | _ => simp only [evOp, aop_like _ h]
theorem wantA_like {ops : Array Oper} {o : Oper} (h : ∀ t ∈ o.looksAt ops, fr.get t = fr'.get t) : wantA ops.toList fr o.guard = wantA ops.toList fr' o.guard := by
  cases hg : o.guard with
  | none => rfl
  | some gw =>
    obtain ⟨j, want⟩ := gw
    simp only [wantA]
    cases hd : (ops.toList[j]?).bind (·.dst) with
    | none => rfl
    | some d =>
      have hd' : (ops[j]?).bind (·.dst) = some d := by simpa using hd
      have := h d (by simp [Oper.looksAt, hg, hd'])
      simp only [this]
theorem like_of {ops : Array Oper} {o : Oper} (h : ∀ t ∈ o.looksAt ops, fr.get t = fr'.get t) : Like fr fr' o.op.operands.toList := by
  intro x hx
  cases x with
  | tmp t => exact h t (List.mem_append_left _ (List.mem_filterMap.2 ⟨.tmp t, hx, rfl⟩))
  | const v => rfl
  | func f => rfl
  | global g => rfl
end Go.Mu
set_option linter.unusedSimpArgs false
set_option linter.unusedVariables false
namespace Go.Mu
open Go

variable {E : Env} {ro : Option Nat} {K : Kr} {n : Nat}

/-- Operations that may come up at any time: they look at their operands, or load. -/
def isN : Op → Bool
  | .move _ | .pick .. | .build .. | .buildSlice .. | .fieldAddr .. | .field .. | .index .. | .indexAddr .. | .nilCheck _ | .binOp .. | .unOp .. | .convert ..
  | .makeInterface .. | .makeFunc .. | .extract .. | .typeAssert .. | .slice .. | .load .. => true
  | .call ⟨.builtin .len, _, _⟩ | .call ⟨.builtin .max, _, _⟩ | .call ⟨.builtin .min, _, _⟩ => true
  | _ => false
def isL : Op → Bool
  | .load .. => true
  | _ => false
def isCl : Op → Bool
  | .call ⟨.value _, _, _⟩ => true
  | _ => false
/-- In a list's place: it may come up at any time: a call of a function that computes alone bears its own number. -/
def isNp (p : Nat × List Nat) (o : Oper) : Bool := isN o.op || (isCl o.op && p.2 == [p.1])
/-- A new variable: it may come up early. -/
def isA (ty : Nat → TI) (N : Nat) (o : Oper) : Bool := match o.op, o.dst with
  | .alloc t, some d => (ty t).kd.agg.isSome && decide (d < N) && o.guard.isNone
  | _, _ => false

def nms (ops : Array Oper) (o : Oper) : List Tmp := o.dst.toList ++ o.looksAt ops
def pred (m : List Nat) (j i : Nat) : Bool := (m.getD j 0).testBit i
def foldM (m : List Nat) (s : Nat) (e : Edge) : Nat := if Region.binds .any e then s ||| (2 ^ e.on ||| m.getD e.on 0) else s
def masksOK (m : List Nat) (ops : Array Oper) : Bool := (List.range ops.size).all fun j => match ops[j]? with
  | some o => m.getD j 0 == o.after.toList.foldl (foldM m) 0 && o.after.toList.all (fun e => !Region.binds .any e || decide (e.on < j))
  | none => false
def chk (ty : Nat → TI) (N : Nat) (m : List Nat) (ops : Array Oper) (p q : Nat × List Nat) : Bool :=
  match ops[p.1]?, ops[q.1]? with
  | some o, some o' =>
    p.1 != q.1 && !pred m p.1 q.1 &&
    (isA ty N o' || isNp p o || pred m q.1 p.1) &&
    (!(isNp q o' || isA ty N o') || o'.dst.toList.all (fun d => !(nms ops o).contains d)) &&
    (isNp q o' || isA ty N o' || !isNp p o || pred m q.1 p.1 || (o'.dst.toList.all (fun d => !(nms ops o).contains d) && (!isL o.op || q.2.contains p.1))) &&
    (!isNp p o || pred m q.1 p.1 || o.dst.toList.all (fun d => !(nms ops o').contains d))
  | _, _ => false
def pairs {α : Type} (f : α → α → Bool) : List α → Bool
  | [] => true
  | x :: l => l.all (f x) && pairs f l
theorem pairs_spec {α : Type} {f : α → α → Bool} : ∀ {l l' : List α}, pairs f (l ++ l') = true → ∀ p ∈ l, ∀ q ∈ l', f p q = true
  | [], _, _, _, hp => by cases hp
  | x :: l, l', h, p, hp => by
    simp only [List.cons_append, pairs, Bool.and_eq_true, List.all_eq_true] at h
    intro q hq
    rcases List.mem_cons.1 hp with rfl | hp
    · exact h.1 q (by simp [hq])
    · exact pairs_spec h.2 p hp q hq
def selfOK (ops : Array Oper) (p : Nat × List Nat) : Bool := match ops[p.1]? with
  | some o => (!(p.2 == [p.1]) || isCl o.op) && (!isNp p o || o.dst.toList.all (fun d => !(o.looksAt ops).contains d))
  | none => false
def drawOK (ty : Nat → TI) (N : Nat) (ops : Array Oper) (c : List Nat × List (Nat × List Nat)) : Bool :=
  masksOK c.1 ops && (List.range ops.size).all (fun i => c.2.any (·.1 == i)) && pairs (chk ty N c.1 ops) c.2 && c.2.all (selfOK ops)

theorem fold_testBit (m : List Nat) (i : Nat) : ∀ (l : List Edge) (s : Nat), (l.foldl (foldM m) s).testBit i = true → s.testBit i = true ∨ ∃ e ∈ l, Region.binds .any e = true ∧ (i = e.on ∨ pred m e.on i = true)
  | [], s, h => .inl h
  | e :: l, s, h => by
    rcases fold_testBit m i l _ h with h1 | ⟨e', h1, h2⟩
    · unfold foldM at h1
      split at h1
      · rename_i hb
        simp only [Nat.testBit_or, Bool.or_eq_true] at h1
        rcases h1 with h1 | h1 | h1
        · exact .inl h1
        · rw [Nat.testBit_two_pow] at h1
          exact .inr ⟨e, by simp, hb, .inl (by simpa [eq_comm] using h1)⟩
        · exact .inr ⟨e, by simp, hb, .inr h1⟩
      · exact .inl h1
    · exact .inr ⟨e', by simp [h1], h2⟩

theorem pred_in {m : List Nat} {ops : Array Oper} (hm : masksOK m ops = true) {X : Nat → Prop} (hc : ∀ j o, ops[j]? = some o → X j → ∀ e ∈ o.after, Region.binds .any e = true → X e.on) (i : Nat) :
    ∀ (j : Nat) (o : Oper), ops[j]? = some o → (∀ e ∈ o.after, Region.binds .any e = true → X e.on) → pred m j i = true → X i := by
  intro j
  induction j using Nat.strongRecOn with
  | _ j ih =>
    intro o ho hd hp
    have hj : j < ops.size := (Array.getElem?_eq_some_iff.1 ho).1
    have h1 := List.all_eq_true.1 hm j (List.mem_range.2 hj)
    simp only [ho, Bool.and_eq_true, beq_iff_eq, List.all_eq_true, Bool.or_eq_true, Bool.not_eq_true', decide_eq_true_eq] at h1
    unfold pred at hp
    rw [h1.1] at hp
    rcases fold_testBit m i _ _ hp with h2 | ⟨e, h2, h3, h4⟩
    · simp at h2
    · have he : e ∈ o.after := by simpa using h2
      rcases h4 with rfl | h4
      · exact hd e he h3
      · have hlt : e.on < j := by
          rcases h1.2 e h2 with h5 | h5
          · rw [h3] at h5; cases h5
          · exact h5
        have ho' : ops[e.on]? = some ops[e.on] := Array.getElem?_eq_getElem (by omega)
        exact ih e.on hlt _ ho' (hc _ _ ho' (hd e he h3)) h4
end Go.Mu
set_option linter.unusedSimpArgs false
set_option linter.unusedVariables false
namespace Go.Mu
open Go

variable {E : Env} {ro : Option Nat} {K : Kr} {n : Nat}

def nthO : List Oper → Nat → Option Oper
  | [], _ => none
  | o :: _, 0 => some o
  | _ :: l, i + 1 => nthO l i
theorem nthO_eq : ∀ (l : List Oper) (i : Nat), nthO l i = l[i]?
  | [], _ => by simp [nthO]
  | o :: _, 0 => by simp [nthO]
  | _ :: l, i + 1 => by simp [nthO, nthO_eq l i]

/-- A load says the same again. -/
def reOK (E : Env) (all : List Oper) (fr : Fr) (σ : List AObj) : Option Oper → Prop
  | none => False
  | some o => match wantA all fr o.guard with
    | some true => match hop E.ty fr σ o.op with
      | some (v, _) => match o.dst with
        | some d => fr.get d = some v
        | none => True
      | none => False
    | some false => True
    | none => False
def recheck (E : Env) (all : List Oper) (fr : Fr) (σ : List AObj) : List Nat → Prop
  | [] => True
  | r :: rs => reOK E all fr σ (nthO all r) ∧ recheck E all fr σ rs

/-- A call of a function that computes alone. -/
def callP (E : Env) (f : Option AV) (as : Option (List AV)) : Option AV := match f, as with
  | some (.fn (.func g) p q), some as => E.fs g (p ++ as ++ q)
  | _, _ => none
def valP (E : Env) (fr : Fr) : Op → Option AV
  | .call ⟨.value f, args, _⟩ => callP E (aeval fr f) (aevals fr args.toList)
  | _ => none
def givP (X : AV → List AObj → Prop) (σ : List AObj) : Option AV → Prop
  | some v => X v σ
  | none => False
def evPc (E : Env) (fr : Fr) (σ : List AObj) (op : Op) (X : AV → List AObj → Prop) : Prop := givP X σ (valP E fr op)
theorem givP_some {X : AV → List AObj → Prop} {σ : List AObj} {v : AV} : givP X σ (some v) = X v σ := rfl
theorem callP_some {E : Env} {g : FuncId} {p q as : List AV} : callP E (some (.fn (.func g) p q)) (some as) = E.fs g (p ++ as ++ q) := rfl
def evD (E : Env) (all : List Oper) : List (Nat × List Nat) → Fr → List AObj → (Fr → List AObj → Prop) → Prop
  | [], fr, σ, Q => Q fr σ
  | p :: L, fr, σ, Q =>
    let next : Option Tmp → AV → List AObj → Prop := fun dst v σ' => match dst with
      | none => recheck E all fr σ' p.2 ∧ evD E all L fr σ' Q
      | some d => d < E.N ∧ recheck E all (fr.put d v) σ' p.2 ∧ evD E all L (fr.put d v) σ' Q
    let pure : Option Tmp → AV → List AObj → Prop := fun dst v σ' => match dst with
      | none => recheck E all fr σ' [] ∧ evD E all L fr σ' Q
      | some d => d < E.N ∧ recheck E all (fr.put d v) σ' [] ∧ evD E all L (fr.put d v) σ' Q
    match p.2 == [p.1], nthO all p.1 with
    | true, some o => match wantA all fr o.guard with
      | none => False
      | some b => (b = true → evPc E fr σ o.op (pure o.dst)) ∧ (b = false → pure o.dst (.tup []) σ)
    | false, some o => match wantA all fr o.guard with
      | none => False
      | some b => (b = true → evOp E fr σ o.type o.op (next o.dst)) ∧ (b = false → next o.dst (.tup []) σ)
    | _, none => False
def evNextD (E : Env) (all : List Oper) (rs : List Nat) (L : List (Nat × List Nat)) (dst : Option Tmp) (fr : Fr) (Q : Fr → List AObj → Prop) (v : AV) (σ : List AObj) : Prop :=
  match dst with
  | none => recheck E all fr σ rs ∧ evD E all L fr σ Q
  | some d => d < E.N ∧ recheck E all (fr.put d v) σ rs ∧ evD E all L (fr.put d v) σ Q
def evDo (E : Env) (all : List Oper) (rs : List Nat) (L : List (Nat × List Nat)) (fr : Fr) (σ : List AObj) (Q : Fr → List AObj → Prop) : Option Oper → Prop
  | none => False
  | some o => match wantA all fr o.guard with
    | none => False
    | some b => (b = true → evOp E fr σ o.type o.op (evNextD E all rs L o.dst fr Q)) ∧ (b = false → evNextD E all rs L o.dst fr Q (.tup []) σ)
def evDp (E : Env) (all : List Oper) (L : List (Nat × List Nat)) (fr : Fr) (σ : List AObj) (Q : Fr → List AObj → Prop) : Option Oper → Prop
  | none => False
  | some o => match wantA all fr o.guard with
    | none => False
    | some b => (b = true → evPc E fr σ o.op (evNextD E all [] L o.dst fr Q)) ∧ (b = false → evNextD E all [] L o.dst fr Q (.tup []) σ)
def evDs (E : Env) (all : List Oper) (rs : List Nat) (L : List (Nat × List Nat)) (fr : Fr) (σ : List AObj) (Q : Fr → List AObj → Prop) (o : Option Oper) : Bool → Prop
  | true => evDp E all L fr σ Q o
  | false => evDo E all rs L fr σ Q o
theorem evDs_true {all : List Oper} {rs : List Nat} {L : List (Nat × List Nat)} {fr : Fr} {σ : List AObj} {Q : Fr → List AObj → Prop} {o : Option Oper} : evDs E all rs L fr σ Q o true = evDp E all L fr σ Q o := rfl
theorem evDs_false {all : List Oper} {rs : List Nat} {L : List (Nat × List Nat)} {fr : Fr} {σ : List AObj} {Q : Fr → List AObj → Prop} {o : Option Oper} : evDs E all rs L fr σ Q o false = evDo E all rs L fr σ Q o := rfl
theorem evD_cons (all : List Oper) (i : Nat) (rs : List Nat) (L : List (Nat × List Nat)) (fr : Fr) (σ : List AObj) (Q : Fr → List AObj → Prop) : evD E all ((i, rs) :: L) fr σ Q = evDs E all rs L fr σ Q (nthO all i) (rs == [i]) := by
  simp only [evD]
  cases hb : rs == [i] with
  | true =>
    cases nthO all i with
    | none => rfl
    | some o =>
      simp only [evDs, evDp]
      cases wantA all fr o.guard with
      | none => rfl
      | some b => cases h : o.dst <;> rfl
  | false =>
    cases nthO all i with
    | none => rfl
    | some o =>
      simp only [evDs, evDo]
      cases wantA all fr o.guard with
      | none => rfl
      | some b => cases h : o.dst <;> rfl
/-- What one that may come up at any time gives. -/
def nop (E : Env) (fr : Fr) (σ : List AObj) (type : TypeId) (op : Op) : Option (AV × List AObj) := match isCl op with
  | true => (valP E fr op).map fun v => (v, σ)
  | false => aop E fr σ type op
theorem isN_cl {op : Op} (h : isN op = true) : isCl op = false := by
  cases op with
  | call c =>
    obtain ⟨callee, args, ats⟩ := c
    cases callee <;> simp [isN] at h <;> rfl
  | _ => rfl
theorem isNp_cases {p : Nat × List Nat} {o : Oper} (h : isNp p o = true) : (isCl o.op = false ∧ isN o.op = true) ∨ (isCl o.op = true ∧ p.2 = [p.1]) := by
  simp only [isNp, Bool.or_eq_true, Bool.and_eq_true, beq_iff_eq] at h
  rcases h with h | h
  · exact .inl ⟨isN_cl h, h⟩
  · exact .inr h

/-- Of operations that may come up at any time. -/
theorem aop_N {fr : Fr} {σ σ' : List AObj} {type : TypeId} {op : Op} {v : AV} (hn : isN op = true) (h : aop E fr σ type op = some (v, σ')) : σ' = σ := by
  unfold aop at h
  split at h
  · simp at h; exact h.2.symm
  · split at h
    · simp at h; exact h.2.symm
    · cases op with
      | load t x =>
        simp only [hop] at h
        split at h
        · split at h
          · simp only [Option.map_eq_some_iff, Prod.mk.injEq] at h
            obtain ⟨_, _, _, h⟩ := h; exact h.symm
          · cases h
        · simp only [Option.map_eq_some_iff, Prod.mk.injEq] at h
          obtain ⟨_, _, _, h⟩ := h; exact h.symm
        · cases h
      | call c =>
        obtain ⟨callee, args, ats⟩ := c
        cases callee with
        | builtin b => cases b <;> simp [isN] at hn <;> simp [hop] at h
        | _ => simp [isN] at hn
      | _ => first | (simp [isN] at hn; done) | (simp [hop] at h; done)
/-- One that loads nothing does not look at the objects. -/
theorem aop_pure {fr : Fr} {σ σ' : List AObj} {type : TypeId} {op : Op} {v : AV} (hn : isN op = true) (hl : isL op = false) (h : aop E fr σ type op = some (v, σ)) : aop E fr σ' type op = some (v, σ') := by
  have hh : ∀ σ, hop E.ty fr σ op = none := by
    intro σ
    cases op with
    | load t x => simp [isL] at hl
    | call c =>
      obtain ⟨callee, args, ats⟩ := c
      cases callee with
      | builtin b => cases b <;> simp [isN] at hn <;> simp [hop]
      | _ => simp [isN] at hn
    | _ => first | (simp [isN] at hn; done) | (simp [hop]; done)
  unfold aop at h ⊢
  cases h1 : pop E.ty fr type op with
  | some u => rw [h1] at h; simp only [Option.some.injEq, Prod.mk.injEq, and_true] at h ⊢; exact h
  | none =>
    rw [h1] at h
    simp only at h ⊢
    cases h2 : litOp E.ty fr op with
    | some u => rw [h2] at h; simp only [Option.some.injEq, Prod.mk.injEq, and_true] at h ⊢; exact h
    | none => rw [h2] at h; simp only [hh] at h; cases h
theorem aop_load {fr : Fr} {σ : List AObj} {type : TypeId} {op : Op} (hl : isL op = true) : aop E fr σ type op = hop E.ty fr σ op := by
  cases op <;> simp [isL] at hl
  rfl
theorem hget_more {σ : List AObj} {x o : AObj} {r : Nat} (hg : hget σ r = some o) : hget (σ ++ [x]) r = some o := by
  unfold hget at hg ⊢
  rw [List.getElem?_append_left (List.getElem?_eq_some_iff.1 hg).1]; exact hg
/-- A load finds the same when there are more objects. -/
theorem aop_more {fr : Fr} {σ : List AObj} {x : AObj} {type : TypeId} {op : Op} {v : AV} (hn : isN op = true) (h : aop E fr σ type op = some (v, σ)) : aop E fr (σ ++ [x]) type op = some (v, σ ++ [x]) := by
  cases hl : isL op with
  | false => exact aop_pure hn hl h
  | true =>
    rw [aop_load hl] at h ⊢
    cases op with
    | load t y =>
      simp only [hop] at h ⊢
      split at h
      · split at h
        · rename_i cs hg
          have hg' := hget_more (x := x) hg
          rw [hg']
          simp only [Option.map_eq_some_iff, Prod.mk.injEq] at h ⊢
          obtain ⟨u, h1, h2, _⟩ := h
          exact ⟨u, h1, h2, trivial⟩
        · cases h
      · simp only [Option.map_eq_some_iff, Prod.mk.injEq] at h ⊢
        obtain ⟨u, h1, h2, _⟩ := h
        exact ⟨u, h1, h2, trivial⟩
      · cases h
    | _ => simp [isL] at hl
theorem evOp_N {fr : Fr} {σ : List AObj} {type : TypeId} {op : Op} {X : AV → List AObj → Prop} (hn : isN op = true) (h : evOp E fr σ type op X) : ∃ v, aop E fr σ type op = some (v, σ) ∧ X v σ := by
  have key : (match aop E fr σ type op with | some (v, σ') => X v σ' | none => False) → ∃ v, aop E fr σ type op = some (v, σ) ∧ X v σ := by
    intro hk
    cases ha : aop E fr σ type op with
    | none => rw [ha] at hk; exact hk.elim
    | some q =>
      obtain ⟨v, σ'⟩ := q
      rw [ha] at hk
      have e := aop_N hn ha
      exact ⟨v, by rw [e], by rw [← e]; exact hk⟩
  cases op with
  | call c =>
    obtain ⟨callee, args, ats⟩ := c
    cases callee with
    | builtin b => exact key h
    | _ => simp [isN] at hn
  | next it b => simp [isN] at hn
  | _ => exact key h

theorem isL_cl {op : Op} (h : isL op = true) : isCl op = false := by cases op <;> simp [isL] at h <;> rfl
theorem nop_N {fr : Fr} {σ σ' : List AObj} {type : TypeId} {op : Op} {v : AV} (hn : isCl op = true ∨ isN op = true) (h : nop E fr σ type op = some (v, σ')) : σ' = σ := by
  unfold nop at h
  cases hc : isCl op with
  | true =>
    rw [hc] at h
    simp only [Option.map_eq_some_iff, Prod.mk.injEq] at h
    obtain ⟨_, _, _, h⟩ := h; exact h.symm
  | false =>
    rw [hc] at h hn
    exact aop_N (by simpa using hn) h
theorem nop_pure {fr : Fr} {σ σ' : List AObj} {type : TypeId} {op : Op} {v : AV} (hn : isCl op = true ∨ isN op = true) (hl : isL op = false) (h : nop E fr σ type op = some (v, σ)) : nop E fr σ' type op = some (v, σ') := by
  unfold nop at h ⊢
  cases hc : isCl op with
  | true =>
    rw [hc] at h
    simp only [Option.map_eq_some_iff, Prod.mk.injEq] at h ⊢
    obtain ⟨u, h1, h2, _⟩ := h
    exact ⟨u, h1, h2, trivial⟩
  | false =>
    rw [hc] at h hn
    exact aop_pure (by simpa using hn) hl h
theorem nop_load {fr : Fr} {σ : List AObj} {type : TypeId} {op : Op} (hl : isL op = true) : nop E fr σ type op = hop E.ty fr σ op := by
  unfold nop; rw [isL_cl hl]; exact aop_load hl
theorem nop_more {fr : Fr} {σ : List AObj} {x : AObj} {type : TypeId} {op : Op} {v : AV} (hn : isCl op = true ∨ isN op = true) (h : nop E fr σ type op = some (v, σ)) : nop E fr (σ ++ [x]) type op = some (v, σ ++ [x]) := by
  unfold nop at h ⊢
  cases hc : isCl op with
  | true =>
    rw [hc] at h
    simp only [Option.map_eq_some_iff, Prod.mk.injEq] at h ⊢
    obtain ⟨u, h1, h2, _⟩ := h
    exact ⟨u, h1, h2, trivial⟩
  | false =>
    rw [hc] at h hn
    exact aop_more (by simpa using hn) h
theorem nop_like {fr fr' : Fr} {σ : List AObj} {type : TypeId} (op : Op) (h : Like fr fr' op.operands.toList) : nop E fr σ type op = nop E fr' σ type op := by
  unfold nop
  rw [aop_like op h]
  have : valP E fr op = valP E fr' op := by
    cases op with
    | call c =>
      obtain ⟨callee, args, ats⟩ := c
      cases callee with
      | value f =>
        have h1 := h f (by simp [Op.operands, Call.operands])
        have h2 := Like.aevals (xs := args.toList) (fun z hz => h z (by simp at hz; simp [Op.operands, Call.operands, hz]))
        simp only [valP, h1, h2]
      | _ => rfl
    | _ => rfl
  rw [this]
theorem isNp_or {p : Nat × List Nat} {o : Oper} (h : isNp p o = true) : isCl o.op = true ∨ isN o.op = true := by
  rcases isNp_cases h with h | h
  · exact .inr h.2
  · exact .inl h.1
/-- What is at hand in a list, of one that may come up at any time. -/
theorem evD_N {p : Nat × List Nat} {all : List Oper} {L : List (Nat × List Nat)} {fr : Fr} {σ : List AObj} {Q : Fr → List AObj → Prop} {o : Oper} (hn : isNp p o = true) (ho : nthO all p.1 = some o) (h : evD E all (p :: L) fr σ Q) :
    ∃ b v rs, wantA all fr o.guard = some b ∧ (b = true → nop E fr σ o.type o.op = some (v, σ)) ∧ (b = false → v = .tup []) ∧ evNextD E all rs L o.dst fr Q v σ := by
  obtain ⟨i, rs⟩ := p
  rw [evD_cons, ho] at h
  rcases isNp_cases hn with ⟨hc, hn⟩ | ⟨hc, hp⟩
  · have key : evDo E all rs L fr σ Q (some o) ∨ evDp E all L fr σ Q (some o) := by
      cases hb : rs == [i] with
      | true => rw [hb] at h; exact .inr h
      | false => rw [hb] at h; exact .inl h
    rcases key with h | h
    · simp only [evDo] at h
      cases hw : wantA all fr o.guard with
      | none => rw [hw] at h; exact h.elim
      | some b =>
        rw [hw] at h
        cases b with
        | false => exact ⟨false, _, rs, rfl, fun h => (by cases h), fun _ => rfl, h.2 rfl⟩
        | true =>
          obtain ⟨v, h1, h2⟩ := evOp_N hn (h.1 rfl)
          exact ⟨true, v, rs, rfl, fun _ => (by unfold nop; rw [hc]; exact h1), fun h => (by cases h), h2⟩
    · simp only [evDp] at h
      cases hw : wantA all fr o.guard with
      | none => rw [hw] at h; exact h.elim
      | some b =>
        rw [hw] at h
        cases b with
        | false => exact ⟨false, _, [], rfl, fun h => (by cases h), fun _ => rfl, h.2 rfl⟩
        | true =>
          exfalso
          have h := h.1 rfl
          unfold evPc at h
          have : valP E fr o.op = none := by
            cases hop : o.op with
            | call c =>
              obtain ⟨callee, args, ats⟩ := c
              rw [hop] at hc
              cases callee <;> simp [isCl] at hc <;> rfl
            | _ => rfl
          rw [this] at h; exact h
  · simp only at hp
    have hb : (rs == [i]) = true := by simp [hp]
    rw [hb] at h
    simp only [evDs, evDp] at h
    cases hw : wantA all fr o.guard with
    | none => rw [hw] at h; exact h.elim
    | some b =>
      rw [hw] at h
      cases b with
      | false => exact ⟨false, _, [], rfl, fun h => (by cases h), fun _ => rfl, h.2 rfl⟩
      | true =>
        have h := h.1 rfl
        unfold evPc at h
        cases hv : valP E fr o.op with
        | none => rw [hv] at h; exact h.elim
        | some v =>
          rw [hv] at h
          exact ⟨true, v, [], rfl, fun _ => (by unfold nop; rw [hc]; simp only; rw [hv]; rfl), fun h => (by cases h), h⟩
/-- What is at hand in a list, of another one. -/
theorem evD_E {p : Nat × List Nat} {all : List Oper} {L : List (Nat × List Nat)} {fr : Fr} {σ : List AObj} {Q : Fr → List AObj → Prop} {o : Oper} (hn : isNp p o = false) (hs : p.2 = [p.1] → isCl o.op = true) (ho : nthO all p.1 = some o) (h : evD E all (p :: L) fr σ Q) : evDo E all p.2 L fr σ Q (some o) := by
  obtain ⟨i, rs⟩ := p
  rw [evD_cons, ho] at h
  cases hb : rs == [i] with
  | false => rw [hb] at h; exact h
  | true =>
    have hc := hs (by simpa using hb)
    simp only [isNp, hc, hb, Bool.true_and, Bool.or_true] at hn
    cases hn
/-- A block that is there already becomes an object's. -/
theorem R.adopt {σ : List AObj} {w : World} (h : R K σ w) {b : Nat} {cs : List AV} {cc : Array Value} {T : TypeId} (hb : w.heap[b]? = some (.cells cc T (0, 0))) (hv : VRs K σ.length cs cc.toList) (h1 : ∀ c ∈ cc.toList, c.oneCell' = true)
    (hf : Free K σ b) (hS : ∀ p, K.S b p = none) : R (K.setφ σ.length b) (σ ++ [.cells cs]) w ∧ ∀ b', b' ≠ b → Free K σ b' → Free (K.setφ σ.length b) (σ ++ [.cells cs]) b' := by
  have he : Ext σ.length K (K.setφ σ.length b) := Ext.setφ K _ _
  have hlt : ∀ {r o}, σ[r]? = some o → r < σ.length := fun h => (List.getElem?_eq_some_iff.1 h).1
  have hget : ∀ q o', (σ ++ [.cells cs])[q]? = some o' → σ[q]? = some o' ∨ (q = σ.length ∧ o' = .cells cs) := fun q o' hq => by
    rw [List.getElem?_append] at hq
    split at hq
    · exact .inl hq
    · cases hk : q - σ.length with
      | zero => rw [hk] at hq; simp at hq; exact .inr ⟨by omega, hq.symm⟩
      | succ j => rw [hk] at hq; simp at hq
  have hnew : ∀ b', ObjBlk (K.setφ σ.length b) σ.length (.cells cs) b' → b' = b := fun b' hb' => by simpa [ObjBlk, Kr.setφ] using hb'
  refine ⟨⟨fun b p v hv => h.stab b p v hv, fun q o' hq => ?_, fun q q' o1 o2 b' h1 h2 b1 b2 => ?_⟩, fun b' hne hfree q o' hq hb' => ?_⟩
  · rcases hget q o' hq with g | ⟨rfl, rfl⟩
    · exact (h.obj q o' g).mono (hlt g) he (by simp) rfl fun b _ => ⟨rfl, fun _ => rfl⟩
    · exact ⟨cc, T, by simp only [Kr.setφ, if_true]; exact hb, hv.mono he (by simp), h1, fun p => by simp only [Kr.setφ, if_true]; exact hS p⟩
  · rcases hget q o1 h1 with g1 | ⟨rfl, rfl⟩ <;> rcases hget q' o2 h2 with g2 | ⟨rfl, rfl⟩
    · exact h.inj q q' o1 o2 b' g1 g2 (b1.ext (hlt g1) he (h.obj q o1 g1)) (b2.ext (hlt g2) he (h.obj q' o2 g2))
    · have := hnew b' b2; subst this
      exact absurd (b1.ext (hlt g1) he (h.obj q o1 g1)) (hf q o1 g1)
    · have := hnew b' b1; subst this
      exact absurd (b2.ext (hlt g2) he (h.obj q' o2 g2)) (hf q' o2 g2)
    · rfl
  · rcases hget q o' hq with g | ⟨rfl, rfl⟩
    · exact hfree q o' g (hb'.ext (hlt g) he (h.obj q o' g))
    · exact hne (hnew b' hb')

end Go.Mu
set_option linter.unusedSimpArgs false
set_option linter.unusedVariables false
namespace Go.Mu
open Go

variable {E : Env} {ro : Option Nat} {n : Nat}

/-- What is settled of a statement at hand. -/
structure Ctx where
  E : Env
  ops : Array Oper
  m : List Nat
  L : List (Nat × List Nat)
  K0 : Kr
  σ0 : List AObj
  w0 : World
  ds : List Deferred
  Q : Fr → List AObj → Prop

def PendOK (E : Env) (ops : Array Oper) (fr : Fr) (σ : List AObj) (o : Oper) : Prop :=
  ∃ b v, wantA ops.toList fr o.guard = some b ∧ (b = true → nop E fr σ o.type o.op = some (v, σ)) ∧ (b = false → v = .tup []) ∧ ∀ d, o.dst = some d → d < E.N ∧ fr.get d = some v
def EarlyOK (E : Env) (w0 : World) (K : Kr) (σ : List AObj) (w : World) (a : Act) (o : Oper) (b : Nat) : Prop :=
  ∃ d t cc T, o.dst = some d ∧ o.op = .alloc t ∧ a.tmps[d]? = some (.pointer (some ⟨b, 0, none⟩)) ∧ w.heap[b]? = some (.cells cc T (0, 0)) ∧ VRs K σ.length (E.ty t).zero.cells cc.toList ∧ (∀ c ∈ cc.toList, c.oneCell' = true) ∧
    Free K σ b ∧ (∀ p, K.S b p = none) ∧ w0.heap.size ≤ b

structure Inv (C : Ctx) (X : Nat → Prop) (L1 L2 : List (Nat × List Nat)) (eb : Nat → Nat) (K : Kr) (σ : List AObj) (w : World) (fr : Fr) (a : Act) : Prop where
  split : C.L = L1 ++ L2
  ev : evD C.E C.ops.toList L2 fr σ C.Q
  closed : ∀ j o, C.ops[j]? = some o → X j → ∀ e ∈ o.after, Region.binds .any e = true → X e.on
  p1 : ∀ p ∈ L1, X p.1 ∨ ∃ o, C.ops[p.1]? = some o ∧ isNp p o = true ∧ PendOK C.E C.ops fr σ o
  p2 : ∀ p ∈ L2, X p.1 → ∃ o, C.ops[p.1]? = some o ∧ isA C.E.ty C.E.N o = true ∧ EarlyOK C.E C.w0 K σ w a o (eb p.1)
  inj : ∀ p ∈ L2, ∀ q ∈ L2, X p.1 → X q.1 → eb p.1 = eb q.1 → p.1 = q.1
  fsz : a.tmps.size = C.E.N
  fr : ∀ t v, fr.get t = some v → (∃ c, a.tmps[t]? = some c ∧ VR K σ.length v c) ∨
    (∃ p ∈ L1, ¬ X p.1 ∧ ∃ o, C.ops[p.1]? = some o ∧ o.dst = some t) ∨ (∃ p ∈ L2, X p.1 ∧ ∃ o, C.ops[p.1]? = some o ∧ o.dst = some t)
  rel : R K σ w
  step : Step C.K0 C.σ0 C.w0 K σ w
  defers : a.defers = C.ds

variable {C : Ctx} {X : Nat → Prop} {L1 L2 : List (Nat × List Nat)} {eb : Nat → Nat} {K : Kr} {σ : List AObj} {w : World} {fr : Fr} {a : Act}

structure DOK (C : Ctx) : Prop where
  E : EnvOK C.E
  masks : masksOK C.m C.ops = true
  all : ∀ i, i < C.ops.size → ∃ p ∈ C.L, p.1 = i
  prs : pairs (chk C.E.ty C.E.N C.m C.ops) C.L = true
  self : ∀ p ∈ C.L, selfOK C.ops p = true

theorem DOK.of (hE : EnvOK C.E) (h : drawOK C.E.ty C.E.N C.ops (C.m, C.L) = true) : DOK C := by
  simp only [drawOK, Bool.and_eq_true] at h
  obtain ⟨⟨⟨h1, h2⟩, h3⟩, h4⟩ := h
  refine ⟨hE, h1, fun i hi => ?_, h3, fun p hp => List.all_eq_true.1 h4 p hp⟩
  have := List.all_eq_true.1 h2 i (List.mem_range.2 hi)
  obtain ⟨p, hp, he⟩ := List.any_eq_true.1 this
  exact ⟨p, hp, by simpa using he⟩

theorem DOK.selfs (h : DOK C) {p : Nat × List Nat} (hp : p ∈ C.L) {o : Oper} (ho : C.ops[p.1]? = some o) : (p.2 = [p.1] → isCl o.op = true) ∧ (isNp p o = true → ∀ d, o.dst = some d → d ∉ o.looksAt C.ops) := by
  have hs := h.self p hp
  simp only [selfOK, ho, Bool.and_eq_true, Bool.or_eq_true, Bool.not_eq_true', beq_eq_false_iff_ne, ne_eq, List.all_eq_true, Option.mem_toList, List.contains_eq_mem, decide_eq_false_iff_not] at hs
  refine ⟨fun e => hs.1.resolve_left fun h => h e, fun hn => ?_⟩
  rcases hs.2 with h | h
  · rw [hn] at h; cases h
  · exact h
/-- What is known of two operations, of which the list has one before the other. -/
structure Two (C : Ctx) (p q : Nat × List Nat) (o o' : Oper) : Prop where
  ne : p.1 ≠ q.1
  back : pred C.m p.1 q.1 = false
  dep : isA C.E.ty C.E.N o' = true ∨ isNp p o = true ∨ pred C.m q.1 p.1 = true
  dst : isNp q o' = true ∨ isA C.E.ty C.E.N o' = true → ∀ d, o'.dst = some d → d ∉ nms C.ops o
  eff : isNp q o' = true ∨ isA C.E.ty C.E.N o' = true ∨ isNp p o = false ∨ pred C.m q.1 p.1 = true ∨ ((∀ d, o'.dst = some d → d ∉ nms C.ops o) ∧ (isL o.op = true → p.1 ∈ q.2))
  reads : isNp p o = true → pred C.m q.1 p.1 = true ∨ ∀ d, o.dst = some d → d ∉ nms C.ops o'

theorem DOK.two (h : DOK C) (hs : C.L = L1 ++ L2) {p q : Nat × List Nat} (hp : p ∈ L1) (hq : q ∈ L2) {o o' : Oper} (ho : C.ops[p.1]? = some o) (ho' : C.ops[q.1]? = some o') : Two C p q o o' := by
  have h1 := pairs_spec (hs ▸ h.prs) p hp q hq
  simp only [chk, ho, ho', Bool.and_eq_true, Bool.or_eq_true, Bool.not_eq_true', bne_iff_ne, ne_eq, List.all_eq_true, Option.mem_toList, List.contains_eq_mem, decide_eq_false_iff_not, decide_eq_true_eq] at h1
  obtain ⟨⟨⟨⟨⟨h1, h2⟩, h3⟩, h4⟩, h5⟩, h6⟩ := h1
  refine ⟨h1, h2, by rcases h3 with (h3 | h3) | h3 <;> simp [h3], fun hk d hd => ?_, ?_, fun hk => ?_⟩
  · rcases h4 with h4 | h4
    · simp only [Bool.or_eq_false_iff] at h4
      rcases hk with hk | hk
      · rw [h4.1] at hk; cases hk
      · rw [h4.2] at hk; cases hk
    · exact h4 d hd
  · rcases h5 with (((h5 | h5) | h5) | h5) | h5
    · exact .inl h5
    · exact .inr (.inl h5)
    · exact .inr (.inr (.inl h5))
    · exact .inr (.inr (.inr (.inl h5)))
    · refine .inr (.inr (.inr (.inr ⟨fun d hd => h5.1 d hd, fun hl => ?_⟩)))
      rcases h5.2 with h7 | h7
      · rw [hl] at h7; cases h7
      · exact h7
  · rcases h6 with (h6 | h6) | h6
    · rw [hk] at h6; cases h6
    · exact .inl h6
    · exact .inr fun d hd => h6 d hd

theorem isA_inv {ty : Nat → TI} {N : Nat} {o : Oper} (h : isA ty N o = true) : ∃ t d, o.op = .alloc t ∧ o.dst = some d ∧ (ty t).kd.agg.isSome = true ∧ d < N ∧ o.guard = none := by
  unfold isA at h
  split at h
  · rename_i t d h1 h2
    simp only [Bool.and_eq_true, decide_eq_true_eq, Option.isNone_iff_eq_none] at h
    exact ⟨t, d, h1, h2, h.1.1, h.1.2, h.2⟩
  · cases h
theorem not_isN_of_A {ty : Nat → TI} {N : Nat} {p : Nat × List Nat} {o : Oper} (h : isA ty N o = true) : isNp p o = false := by
  obtain ⟨t, d, h1, _⟩ := isA_inv h
  unfold isNp
  rw [h1]; rfl

/-- Two frames that differ at one slot look alike to who does not look there. -/
theorem get_put_ne {o : Oper} {ops : Array Oper} {d : Nat} {v : AV} (h : d ∉ o.looksAt ops) : ∀ t ∈ o.looksAt ops, fr.get t = (fr.put d v).get t := fun t ht => by
  rw [Fr.get_put, if_neg]; intro e; subst e; exact h ht

theorem PendOK.put {o : Oper} {d : Nat} {v : AV} {E : Env} {ops : Array Oper} (h : PendOK E ops fr σ o) (hd : d ∉ nms ops o) : PendOK E ops (fr.put d v) σ o := by
  obtain ⟨b, u, h1, h2, h3, h4⟩ := h
  have hl := get_put_ne (fr := fr) (v := v) (o := o) (ops := ops) (d := d) (fun hm => hd (List.mem_append_right _ hm))
  refine ⟨b, u, by rw [← wantA_like hl]; exact h1, fun hb => by rw [← nop_like _ (like_of hl)]; exact h2 hb, h3, fun e he => ?_⟩
  have hne : d ≠ e := fun x => hd (List.mem_append_left _ (by rw [he, x]; simp))
  rw [Fr.get_put, if_neg hne]
  exact h4 e he

theorem nthO_ops {i : Nat} {o : Oper} {ops : Array Oper} (h : ops[i]? = some o) : nthO ops.toList i = some o := by rw [nthO_eq]; simpa using h

/-- One that may come up at any time is looked at before it comes up. -/
theorem Inv.advN (hD : DOK C) {p : Nat × List Nat} (h : Inv C X L1 (p :: L2) eb K σ w fr a) (hp : ¬ X p.1) {o : Oper} (ho : C.ops[p.1]? = some o) (hn : isNp p o = true) : ∃ fr', Inv C X (L1 ++ [p]) L2 eb K σ w fr' a := by
  obtain ⟨b, v, rs', hb, hv1, hv2, hv3⟩ := evD_N hn (nthO_ops ho) h.ev
  obtain ⟨i, rs⟩ := p
  have hself := (hD.selfs (by rw [h.split]; simp) ho).2 hn
  ·
    cases hd : o.dst with
    | none =>
      rw [hd] at hv3
      refine ⟨fr, ⟨by rw [h.split]; simp, hv3.2, h.closed, fun q hq => ?_, fun q hq => h.p2 q (by simp [hq]), fun q hq q' hq' => h.inj q (by simp [hq]) q' (by simp [hq']), h.fsz, fun t u hu => ?_, h.rel, h.step, h.defers⟩⟩
      · rcases List.mem_append.1 hq with hq | hq
        · exact h.p1 q hq
        · simp at hq; subst hq
          exact .inr ⟨o, ho, hn, b, v, hb, hv1, hv2, fun d hd' => by rw [hd] at hd'; cases hd'⟩
      · rcases h.fr t u hu with h1 | ⟨q, h1, h2⟩ | ⟨q, h1, h2, h3⟩
        · exact .inl h1
        · exact .inr (.inl ⟨q, by simp [h1], h2⟩)
        · rcases List.mem_cons.1 h1 with rfl | h1
          · exact absurd h2 hp
          · exact .inr (.inr ⟨q, h1, h2, h3⟩)
    | some d =>
      rw [hd] at hv3
      have hl := get_put_ne (fr := fr) (v := v) (o := o) (ops := C.ops) (d := d) (fun hm => hself d hd hm)
      refine ⟨fr.put d v, ⟨by rw [h.split]; simp, hv3.2.2, h.closed, fun q hq => ?_, fun q hq => h.p2 q (by simp [hq]), fun q hq q' hq' => h.inj q (by simp [hq]) q' (by simp [hq']), h.fsz, fun t u hu => ?_, h.rel, h.step, h.defers⟩⟩
      · rcases List.mem_append.1 hq with hq | hq
        · rcases h.p1 q hq with h1 | ⟨oq, h1, h2, h3⟩
          · exact .inl h1
          · exact .inr ⟨oq, h1, h2, h3.put ((hD.two h.split hq (q := (i, rs)) (by simp) h1 ho).dst (.inl hn) d hd)⟩
        · simp at hq; subst hq
          refine .inr ⟨o, ho, hn, b, v, by rw [← wantA_like hl]; exact hb, fun e => by rw [← nop_like _ (like_of hl)]; exact hv1 e, hv2, fun d' hd' => ?_⟩
          rw [hd] at hd'; simp at hd'; subst hd'
          exact ⟨hv3.1, by rw [Fr.get_put, if_pos rfl]⟩
      · rw [Fr.get_put] at hu
        by_cases e : d = t
        · subst e
          exact .inr (.inl ⟨(i, rs), by simp, hp, o, ho, hd⟩)
        · rw [if_neg e] at hu
          rcases h.fr t u hu with h1 | ⟨q, h1, h2⟩ | ⟨q, h1, h2, h3⟩
          · exact .inl h1
          · exact .inr (.inl ⟨q, by simp [h1], h2⟩)
          · rcases List.mem_cons.1 h1 with rfl | h1
            · exact absurd h2 hp
            · exact .inr (.inr ⟨q, h1, h2, h3⟩)

theorem EarlyOK.mono {E : Env} {w0 w w' : World} {K K' : Kr} {σ σ' : List AObj} {a a' : Act} {o : Oper} {b : Nat} (h : EarlyOK E w0 K σ w a o b) (he : Ext σ.length K K') (hn : σ.length ≤ σ'.length) (hh : w'.heap[b]? = w.heap[b]?) (hf : Free K σ b → Free K' σ' b) (hS : ∀ p, K'.S b p = K.S b p)
    (ha : ∀ d, o.dst = some d → a'.tmps[d]? = a.tmps[d]?) : EarlyOK E w0 K' σ' w' a' o b := by
  obtain ⟨d, t, cc, T, h1, h2, h3, h4, h5, h6, h7, h8, h9⟩ := h
  exact ⟨d, t, cc, T, h1, h2, by rw [ha d h1]; exact h3, by rw [hh]; exact h4, h5.mono he hn, h6, hf h7, fun p => by rw [hS]; exact h8 p, h9⟩

/-- A new variable that came up early is looked at now. -/
theorem Inv.advA (hD : DOK C) {p : Nat × List Nat} (h : Inv C X L1 (p :: L2) eb K σ w fr a) (hp : X p.1) : ∃ K' σ' fr', Inv C X (L1 ++ [p]) L2 eb K' σ' w fr' a := by
  obtain ⟨o, ho, hA, he⟩ := h.p2 p (by simp) hp
  have hev := evD_E (not_isN_of_A hA) (hD.selfs (by rw [h.split]; simp) ho).1 (nthO_ops ho) h.ev
  obtain ⟨i, rs⟩ := p
  obtain ⟨t0, d0, g1, g2, g3, g4, g5⟩ := isA_inv hA
  simp only [evDo, g5, wantA, g1, g2] at hev
  have hev := hev.1 trivial
  have e1 : evOp C.E fr σ o.type (.alloc t0) (evNextD C.E C.ops.toList rs L2 (some d0) fr C.Q) = give2 (evNextD C.E C.ops.toList rs L2 (some d0) fr C.Q) (hop C.E.ty fr σ (.alloc t0)) := evOp_alloc
  rw [e1] at hev
  simp only [hop, g3, if_true, give2] at hev
  obtain ⟨d, t, cc, T, h1, h2, h3, h4, h5, h6, h7, h8, h9⟩ := he
  rw [g2] at h1; simp at h1; subst h1
  rw [g1] at h2; simp at h2; subst h2
  obtain ⟨r1, r2⟩ := h.rel.adopt h4 h5 h6 h7 h8
  have hext : Ext σ.length K (K.setφ σ.length (eb i)) := Ext.setφ K _ _
  obtain ⟨hv1, _, hv3⟩ := hev
  refine ⟨_, _, fr.put d0 (.ptr σ.length 0), ⟨by rw [h.split]; simp, hv3, h.closed, fun q hq => ?_, fun q hq hx => ?_, fun q hq q' hq' => h.inj q (by simp [hq]) q' (by simp [hq']), h.fsz, fun t u hu => ?_, r1, ?_, h.defers⟩⟩
  · rcases List.mem_append.1 hq with hq | hq
    · rcases h.p1 q hq with k1 | ⟨oq, k1, k2, k3⟩
      · exact .inl k1
      · have k4 := k3.put (d := d0) (v := .ptr σ.length 0) ((hD.two h.split hq (q := (i, rs)) (by simp) k1 ho).dst (.inr hA) d0 g2)
        obtain ⟨b, u, l1, l2, l3, l4⟩ := k4
        exact .inr ⟨oq, k1, k2, b, u, l1, fun hb => nop_more (isNp_or k2) (l2 hb), l3, l4⟩
    · simp at hq; subst hq; exact .inl hp
  · obtain ⟨oq, k1, k2, k3⟩ := h.p2 q (by simp [hq]) hx
    refine ⟨oq, k1, k2, k3.mono hext (by simp) rfl (r2 _ fun e => ?_) (fun _ => rfl) (fun _ _ => rfl)⟩
    have := h.inj q (by simp [hq]) (i, rs) (by simp) hx hp e
    have hs : C.L = (L1 ++ [(i, rs)]) ++ L2 := by rw [h.split]; simp
    exact (hD.two hs (p := (i, rs)) (by simp) hq ho k1).ne this.symm
  · rw [Fr.get_put] at hu
    by_cases e : d0 = t
    · subst e
      rw [if_pos rfl] at hu; simp at hu; subst hu
      refine .inl ⟨_, h3, ?_⟩
      have := VR.ptr (K := K.setφ σ.length (eb i)) (n := (σ ++ [AObj.cells (C.E.ty t0).zero.cells]).length) σ.length 0 (by simp)
      simpa [Kr.setφ] using this
    · rw [if_neg e] at hu
      rcases h.fr t u hu with ⟨c, k1, k2⟩ | ⟨q, k1, k2⟩ | ⟨q, k1, k2, oq, k3, k4⟩
      · exact .inl ⟨c, k1, k2.mono hext (by simp)⟩
      · exact .inr (.inl ⟨q, by simp [k1], k2⟩)
      · rcases List.mem_cons.1 k1 with rfl | k1
        · rw [ho] at k3; simp at k3; subst k3
          rw [g2] at k4; simp at k4; exact absurd k4 e
        · exact .inr (.inr ⟨q, k1, k2, oq, k3, k4⟩)
  · have hs := h.step
    refine ⟨hs.ext.trans hext hs.len, by have := hs.len; simp; omega, hs.size, fun b hb hf => ?_, hs.os, hs.tape, hs.output, hs.froz⟩
    obtain ⟨m1, m2, m3⟩ := hs.keep b hb hf
    exact ⟨m1, r2 b (by omega) m2, m3⟩

theorem Inv.advTo (hD : DOK C) {M : List (Nat × List Nat)} : ∀ {L1 L2 : List (Nat × List Nat)} {K : Kr} {σ : List AObj} {fr : Fr}, Inv C X L1 (M ++ L2) eb K σ w fr a → (∀ p ∈ M, X p.1 ∨ ∃ o, C.ops[p.1]? = some o ∧ isNp p o = true) → ∃ K' σ' fr', Inv C X (L1 ++ M) L2 eb K' σ' w fr' a := by
  induction M with
  | nil => intro L1 L2 K σ fr h _; exact ⟨K, σ, fr, by simpa using h⟩
  | cons p M ih =>
    intro L1 L2 K σ fr h hM
    have hstep : ∃ K' σ' fr', Inv C X (L1 ++ [p]) (M ++ L2) eb K' σ' w fr' a := by
      by_cases hx : X p.1
      · exact h.advA hD hx
      · rcases hM p (by simp) with h1 | ⟨o, h1, h2⟩
        · exact absurd h1 hx
        · obtain ⟨fr', h3⟩ := h.advN hD hx h1 h2
          exact ⟨K, σ, fr', h3⟩
    obtain ⟨K1, σ1, fr1, h1⟩ := hstep
    obtain ⟨K2, σ2, fr2, h2⟩ := ih h1 (fun q hq => hM q (by simp [hq]))
    exact ⟨K2, σ2, fr2, by simpa using h2⟩
end Go.Mu
set_option linter.unusedSimpArgs false
set_option linter.unusedVariables false
namespace Go.Mu
open Go

variable {ro : Option Nat} {n : Nat}
variable {C : Ctx} {X : Nat → Prop} {L1 L2 : List (Nat × List Nat)} {eb : Nat → Nat} {K : Kr} {σ : List AObj} {w : World} {fr : Fr} {a : Act}

theorem order_of {α : Type} {L : List α} {p q : α} (hp : p ∈ L) (hq : q ∈ L) : q = p ∨ (∃ A B, L = A ++ B ∧ q ∈ A ∧ p ∈ B) ∨ (∃ A B, L = A ++ B ∧ p ∈ A ∧ q ∈ B) := by
  obtain ⟨A, B, rfl⟩ := List.append_of_mem hp
  rcases List.mem_append.1 hq with h | h
  · exact .inr (.inl ⟨A, p :: B, rfl, h, by simp⟩)
  · rcases List.mem_cons.1 h with h | h
    · exact .inl h
    · exact .inr (.inr ⟨A ++ [p], B, by simp, by simp, h⟩)

theorem put_get {a : Act} {d : Option Tmp} {c : Value} {t : Nat} (h : d ≠ some t) : (a.put d c).tmps[t]? = a.tmps[t]? := by
  cases d with
  | none => rfl
  | some d =>
    have hne : d ≠ t := fun e => h (by rw [e])
    simp [Act.put, Array.getElem?_setIfInBounds_ne hne]
theorem put_size {a : Act} {d : Option Tmp} {c : Value} : (a.put d c).tmps.size = a.tmps.size := by
  cases d with
  | none => rfl
  | some d => simp [Act.put]

/-- An operation whose time has come finds what it looks at. -/
theorem Inv.looks (hD : DOK C) (h : Inv C X L1 L2 eb K σ w fr a) {p : Nat × List Nat} (hp : p ∈ C.L) (hx : ¬ X p.1) {o : Oper} (ho : C.ops[p.1]? = some o) (hr : ∀ e ∈ o.after, Region.binds .any e = true → X e.on)
    (hpos : ∀ q ∈ L2, X q.1 → ∃ A B, C.L = A ++ B ∧ p ∈ A ∧ q ∈ B) (hself : isNp p o = true → ∀ d, o.dst = some d → d ∉ o.looksAt C.ops) (hnp : isNp p o = false → ∀ q ∈ L1, q ≠ p) : FR K σ.length C.E.N (fr.only (o.looksAt C.ops)) a.tmps := by
  refine ⟨h.fsz, fun t v hv => ?_⟩
  rw [Fr.get_only] at hv
  split at hv
  · rename_i ht
    have ht : t ∈ o.looksAt C.ops := by simpa using ht
    rcases h.fr t v hv with h1 | ⟨q, hq, hxq, oq, hoq, hdq⟩ | ⟨q, hq, hxq, oq, hoq, hdq⟩
    · exact h1
    · exfalso
      have hqN : isNp q oq = true := by
        rcases h.p1 q hq with k | ⟨o', k1, k2, _⟩
        · exact absurd k hxq
        · rw [hoq] at k1; simp at k1; subst k1; exact k2
      have hqL : q ∈ C.L := by rw [h.split]; simp [hq]
      rcases order_of hp hqL with e | ⟨A, B, hs, hqA, hpB⟩ | ⟨A, B, hs, hpA, hqB⟩
      · subst e
        rw [ho] at hoq; simp at hoq; subst hoq
        exact hself hqN t hdq ht
      · rcases (hD.two hs hqA hpB hoq ho).reads hqN with k | k
        · exact hxq (pred_in hD.masks h.closed q.1 p.1 o ho hr k)
        · exact k t hdq (List.mem_append_right _ ht)
      · exact (hD.two hs hpA hqB ho hoq).dst (.inl hqN) t hdq (List.mem_append_right _ ht)
    · exfalso
      obtain ⟨o', k1, k2, _⟩ := h.p2 q hq hxq
      rw [hoq] at k1; simp at k1; subst k1
      obtain ⟨A, B, hs, hpA, hqB⟩ := hpos q hq hxq
      exact (hD.two hs hpA hqB ho hoq).dst (.inr k2) t hdq (List.mem_append_right _ ht)
  · cases hv

theorem only_like {o : Oper} {ops : Array Oper} : ∀ t ∈ o.looksAt ops, fr.get t = (fr.only (o.looksAt ops)).get t := fun t ht => by
  rw [Fr.get_only, if_pos (by simpa using ht)]

theorem evOp_of_N {E : Env} {type : TypeId} {op : Op} {v : AV} {σ' : List AObj} {Y : AV → List AObj → Prop} (hn : isN op = true) (h : aop E fr σ type op = some (v, σ')) (hY : Y v σ') : evOp E fr σ type op Y := by
  have key : (match aop E fr σ type op with | some (v, σ') => Y v σ' | none => False) := by rw [h]; exact hY
  cases op with
  | call c =>
    obtain ⟨callee, args, ats⟩ := c
    cases callee with
    | builtin b => exact key
    | _ => simp [isN] at hn
  | next it b => simp [isN] at hn
  | _ => exact key

theorem Inv.early (hD : DOK C) (h : Inv C X L1 L2 eb K σ w fr a) {K' : Kr} {σ' : List AObj} {w' : World} (hS : Step K σ w K' σ' w') {p q : Nat × List Nat} {o : Oper} (ho : C.ops[p.1]? = some o) (hq : q ∈ L2) (hx : X q.1)
    (hpos : ∃ A B, C.L = A ++ B ∧ p ∈ A ∧ q ∈ B) {c : Value} : ∃ oq, C.ops[q.1]? = some oq ∧ isA C.E.ty C.E.N oq = true ∧ EarlyOK C.E C.w0 K' σ' w' (a.put o.dst c) oq (eb q.1) := by
  obtain ⟨oq, k1, k2, k3⟩ := h.p2 q hq hx
  obtain ⟨A, B, hs, hpA, hqB⟩ := hpos
  have h2 := hD.two hs hpA hqB ho k1
  have hb : eb q.1 < w.heap.size := by obtain ⟨d, t, cc, T, h1, h2, h3, h4, _⟩ := k3; exact lt_of_heap h4
  have hfree : Free K σ (eb q.1) := by obtain ⟨d, t, cc, T, h1, h2, h3, h4, _, _, h7, _⟩ := k3; exact h7
  obtain ⟨m1, m2, m3⟩ := hS.keep _ hb hfree
  refine ⟨oq, k1, k2, k3.mono hS.ext hS.len m1 (fun _ => m2) m3 fun d hd => put_get fun e => ?_⟩
  exact h2.dst (.inr k2) d hd (List.mem_append_left _ (by rw [e]; simp))

theorem evOp_of_Np {E : Env} {type : TypeId} {op : Op} {v : AV} {σ' : List AObj} {Y : AV → List AObj → Prop} (hn : isCl op = true ∨ isN op = true) (h : nop E fr σ type op = some (v, σ')) (hY : Y v σ') : evOp E fr σ type op Y := by
  unfold nop at h
  cases hc : isCl op with
  | false => rw [hc] at h hn; exact evOp_of_N (by simpa using hn) h hY
  | true =>
    rw [hc] at h
    simp only [Option.map_eq_some_iff, Prod.mk.injEq] at h
    obtain ⟨u, h1, rfl, rfl⟩ := h
    cases op with
    | call c =>
      obtain ⟨callee, args, ats⟩ := c
      cases callee with
      | value f =>
        simp only [valP] at h1
        simp only [evOp]
        unfold callP at h1
        split at h1
        · rename_i g p q as e1 e2
          rw [e1, e2]
          simp only [callA, h1]
          exact hY
        · cases h1
      | _ => simp [isCl] at hc
    | _ => simp [isCl] at hc
/-- One that was looked at comes up. -/
theorem Inv.execN (hD : DOK C) (h : Inv C X L1 L2 eb K σ w fr a) {p : Nat × List Nat} (hp : p ∈ L1) (hx : ¬ X p.1) {o : Oper} (ho : C.ops[p.1]? = some o) (hr : ∀ e ∈ o.after, Region.binds .any e = true → X e.on)
    {KK : Act → World → Prop} {QQ : Exit → Act → World → Prop} (hk : ∀ K' w' a', Inv C (fun j => X j ∨ j = p.1) L1 L2 eb K' σ w' fr a' → KK a' w') : wpOpIn (Fw ro) n C.E.P C.ops QQ p.1 KK a w := by
  obtain ⟨o', k1, hn, b, v, hb, hv1, hv2, hv3⟩ := (h.p1 p hp).resolve_left hx
  rw [ho] at k1; simp at k1; subst k1
  have hpL : p ∈ C.L := by rw [h.split]; simp [hp]
  have hself := hD.self p hpL
  replace hself := (hD.selfs hpL ho).2 hn
  have hpos : ∀ q ∈ L2, ∃ A B, C.L = A ++ B ∧ p ∈ A ∧ q ∈ B := fun q hq => ⟨L1, L2, h.split, hp, hq⟩
  have hF := h.looks hD hpL hx ho hr (fun q hq _ => hpos q hq) (fun _ => hself) (fun e => by rw [hn] at e; cases e)
  have hne : ∀ q ∈ L2, p.1 ≠ q.1 := fun q hq e => by
    have hq' : C.ops[q.1]? = some o := by rw [← e]; exact ho
    exact (hD.two h.split hp hq ho hq').ne e
  have hfin : ∀ K' w' c, R K' σ w' → VR K' σ.length v c → Step K σ w K' σ w' → KK (a.put o.dst c) w' := by
    intro K' w' c g1 g2 g3
    refine hk K' w' _ ⟨h.split, h.ev, fun j oj hj hX e he hbd => ?_, fun q hq => ?_, fun q hq hX => ?_, fun q hq q' hq' h1 h2 => ?_, ?_, fun t u hu => ?_, g1, h.step.trans g3, ?_⟩
    · rcases hX with hX | rfl
      · exact .inl (h.closed j oj hj hX e he hbd)
      · rw [ho] at hj; simp at hj; subst hj; exact .inl (hr e he hbd)
    · rcases h.p1 q hq with m | m
      · exact .inl (.inl m)
      · exact .inr m
    · have hX' : X q.1 := hX.resolve_right fun e => hne q hq e.symm
      exact h.early hD g3 ho hq hX' (hpos q hq)
    · exact h.inj q hq q' hq' (h1.resolve_right fun e => hne q hq e.symm) (h2.resolve_right fun e => hne q' hq' e.symm)
    · rw [put_size]; exact h.fsz
    · by_cases e : o.dst = some t
      · obtain ⟨m1, m2⟩ := hv3 t e
        rw [m2] at hu; simp at hu; subst hu
        refine .inl ⟨c, ?_, g2⟩
        rw [e]; simp [Act.put, h.fsz, m1]
      · rcases h.fr t u hu with ⟨c', m1, m2⟩ | ⟨q, m1, m2, oq, m3, m4⟩ | ⟨q, m1, m2, m3⟩
        · exact .inl ⟨c', by rw [put_get e]; exact m1, m2.mono g3.ext g3.len⟩
        · refine .inr (.inl ⟨q, m1, fun hX => ?_, oq, m3, m4⟩)
          rcases hX with hX | hX
          · exact m2 hX
          · rw [hX, ho] at m3; simp at m3; subst m3; exact e m4
        · exact .inr (.inr ⟨q, m1, .inl m2, m3⟩)
    · rw [put_defers]; exact h.defers
  have hb' : wantA C.ops.toList (fr.only (o.looksAt C.ops)) o.guard = some b := by rw [← wantA_like only_like]; exact hb
  have hw := wantA_sound hF hb'
  unfold wpOpIn
  simp only [ho]
  cases b with
  | false =>
    rw [if_neg (by rw [hw]; simp)]
    have := hv2 rfl; subst this
    exact ⟨fun f _ => trivial, hfin K w undef h.rel undef_VR (.refl _ _ _)⟩
  | true =>
    rw [if_pos hw]
    have hv := hv1 rfl
    rw [nop_like _ (like_of (only_like (ops := C.ops)))] at hv
    refine opIn_sound hD.E (evOp_of_Np (isNp_or hn) (Y := fun v' σ' => v' = v ∧ σ' = σ) hv ⟨rfl, rfl⟩) h.rel hF ?_
    rintro K' σ' w' v' c ⟨rfl, rfl⟩ g1 g2 g3
    exact hfin K' w' c g1 g2 g3

/-- A new variable comes up early. -/
theorem Inv.execA (hD : DOK C) (h : Inv C X L1 L2 eb K σ w fr a) {p : Nat × List Nat} (hp : p ∈ L2) (hx : ¬ X p.1) {o : Oper} (ho : C.ops[p.1]? = some o) (hA : isA C.E.ty C.E.N o = true) (hr : ∀ e ∈ o.after, Region.binds .any e = true → X e.on)
    {KK : Act → World → Prop} {QQ : Exit → Act → World → Prop} (hk : ∀ eb' w' a', Inv C (fun j => X j ∨ j = p.1) L1 L2 eb' K σ w' fr a' → KK a' w') : wpOpIn (Fw ro) n C.E.P C.ops QQ p.1 KK a w := by
  obtain ⟨t0, d0, g1, g2, g3, g4, g5⟩ := isA_inv hA
  have hk' := kd_of_agg g3
  obtain ⟨z, hz, hzr⟩ := run_zero (K := K) (n := σ.length) hD.E.ty hk'
  obtain ⟨c1, c2⟩ := hz.cells (zero_flat hD.E.ty hk')
  have hpL : p ∈ C.L := by rw [h.split]; simp [hp]
  let w' := w.alloc (.cells z.cells t0 (0, 0))
  have hrun : (o.semAt (Fw ro).round a.eval).run C.E.P w = .ok (.value (.pointer (some ⟨w.heap.size, 0, none⟩))) w' := by
    rw [notDefer (by rw [g1]; intro c hc; cases hc)]
    simp only [execOp, g1, Instr.alloc, Sem.run_bind, hzr w, Result.andThen_ok, newVar, newRow]
    rfl
  obtain ⟨r1, r2⟩ := h.rel.newS (.cells z.cells t0 (0, 0)) K (.refl _ _) rfl (fun b p v hv => .inl hv)
  have hold : ∀ q ∈ L2, X q.1 → eb q.1 < w.heap.size := fun q hq hX => by
    obtain ⟨oq, k1, k2, d, t, cc, T, k3, k4, k5, k6, _⟩ := h.p2 q hq hX
    exact lt_of_heap k6
  have hfin : KK (a.put o.dst (.pointer (some ⟨w.heap.size, 0, none⟩))) w' := by
    refine hk (fun j => if j = p.1 then w.heap.size else eb j) w' _ ⟨h.split, h.ev, fun j oj hj hX e he hbd => ?_, fun q hq => ?_, fun q hq hX => ?_, fun q hq q' hq' h1 h2 => ?_, ?_, fun t u hu => ?_, r1, h.step.trans r2, ?_⟩
    · rcases hX with hX | rfl
      · exact .inl (h.closed j oj hj hX e he hbd)
      · rw [ho] at hj; simp at hj; subst hj; exact .inl (hr e he hbd)
    · rcases h.p1 q hq with m | m
      · exact .inl (.inl m)
      · exact .inr m
    · by_cases e : q.1 = p.1
      · rw [e, if_pos rfl]
        refine ⟨o, ho, hA, d0, t0, z.cells, t0, g2, g1, ?_, heap_alloc_new w _, c1, c2, fun r o hr hb => ?_, fun pp => ?_, h.step.size⟩
        · rw [g2]; simp [Act.put, h.fsz, g4]
        · exact absurd ((h.rel.obj r o hr).blk_lt hb) (by omega)
        · cases hkk : K.S w.heap.size pp with
          | none => rfl
          | some v => have := h.rel.lt hkk; omega
      · rw [if_neg e]
        have hX' : X q.1 := hX.resolve_right e
        obtain ⟨oq, k1, k2, k3⟩ := h.p2 q hq hX'
        have hb := hold q hq hX'
        have hfree : Free K σ (eb q.1) := by obtain ⟨d, t, cc, T, h1, h2, h3, h4, _, _, h7, _⟩ := k3; exact h7
        obtain ⟨m1, m2, m3⟩ := r2.keep _ hb hfree
        refine ⟨oq, k1, k2, k3.mono r2.ext r2.len m1 (fun _ => m2) m3 fun d hd => put_get fun e' => ?_⟩
        have hqL : q ∈ C.L := by rw [h.split]; simp [hq]
        rcases order_of hpL hqL with e2 | ⟨A, B, hs, hqA, hpB⟩ | ⟨A, B, hs, hpA, hqB⟩
        · exact e (by rw [e2])
        · exact (hD.two hs hqA hpB k1 ho).dst (.inr hA) d e' (List.mem_append_left _ (by rw [hd]; simp))
        · exact (hD.two hs hpA hqB ho k1).dst (.inr k2) d hd (List.mem_append_left _ (by rw [e']; simp))
    · by_cases e : q.1 = p.1 <;> by_cases e' : q'.1 = p.1
      · intro _; rw [e, e']
      · have := hold q' hq' (h2.resolve_right e')
        rw [if_pos e, if_neg e']; intro e3; omega
      · have := hold q hq (h1.resolve_right e)
        rw [if_neg e, if_pos e']; intro e3; omega
      · rw [if_neg e, if_neg e']; exact h.inj q hq q' hq' (h1.resolve_right e) (h2.resolve_right e')
    · rw [put_size]; exact h.fsz
    · by_cases e : o.dst = some t
      · exact .inr (.inr ⟨p, hp, .inr rfl, o, ho, e⟩)
      · rcases h.fr t u hu with ⟨c', m1, m2⟩ | ⟨q, m1, m2, oq, m3, m4⟩ | ⟨q, m1, m2, m3⟩
        · exact .inl ⟨c', by rw [put_get e]; exact m1, m2⟩
        · refine .inr (.inl ⟨q, m1, fun hX => ?_, oq, m3, m4⟩)
          rcases hX with hX | hX
          · exact m2 hX
          · rw [hX, ho] at m3; simp at m3; subst m3; exact e m4
        · exact .inr (.inr ⟨q, m1, .inl m2, m3⟩)
    · rw [put_defers]; exact h.defers
  unfold wpOpIn
  simp only [ho]
  rw [if_pos (by unfold Region.wanted; rw [g5])]
  refine ⟨fun f _ => trivial, ?_⟩
  rw [hrun]
  exact hfin
end Go.Mu
set_option linter.unusedSimpArgs false
set_option linter.unusedVariables false
namespace Go.Mu
open Go

variable {ro : Option Nat} {n : Nat}
variable {C : Ctx} {X : Nat → Prop} {L1 L2 : List (Nat × List Nat)} {eb : Nat → Nat} {K : Kr} {σ : List AObj} {w : World} {fr : Fr} {a : Act}

theorem recheck_mem {E : Env} {all : List Oper} : ∀ {rs : List Nat} {r : Nat}, recheck E all fr σ rs → r ∈ rs → reOK E all fr σ (nthO all r)
  | [], _, _, h => by cases h
  | x :: rs, r, h, hr => by
    rcases List.mem_cons.1 hr with rfl | hr
    · exact h.1
    · exact recheck_mem h.2 hr

/-- One that turns things comes up. -/
theorem Inv.execE (hD : DOK C) {p : Nat × List Nat} (h : Inv C X L1 (p :: L2) eb K σ w fr a) (hx : ¬ X p.1) {o : Oper} (ho : C.ops[p.1]? = some o) (hn : isNp p o = false) (hA : isA C.E.ty C.E.N o = false) (hr : ∀ e ∈ o.after, Region.binds .any e = true → X e.on)
    {KK : Act → World → Prop} {QQ : Exit → Act → World → Prop} (hk : ∀ K' σ' w' fr' a', Inv C (fun j => X j ∨ j = p.1) (L1 ++ [p]) L2 eb K' σ' w' fr' a' → KK a' w') : wpOpIn (Fw ro) n C.E.P C.ops QQ p.1 KK a w := by
  have hpL : p ∈ C.L := by rw [h.split]; simp
  have hs2 : C.L = (L1 ++ [p]) ++ L2 := by rw [h.split]; simp
  have hpos : ∀ q ∈ L2, ∃ A B, C.L = A ++ B ∧ p ∈ A ∧ q ∈ B := fun q hq => ⟨L1 ++ [p], L2, hs2, by simp, hq⟩
  have hne : ∀ q ∈ L2, p.1 ≠ q.1 := fun q hq e => by
    have hq' : C.ops[q.1]? = some o := by rw [← e]; exact ho
    exact (hD.two hs2 (by simp) hq ho hq').ne e
  have hF := h.looks hD hpL hx ho hr (fun q hq hX => by
    rcases List.mem_cons.1 hq with rfl | hq
    · exact absurd hX hx
    · exact hpos q hq) (fun e => by rw [hn] at e; cases e) (fun _ q hq e => by
      subst e
      exact (hD.two h.split hq (List.mem_cons_self ..) ho ho).ne rfl)
  have hev := evD_E hn (hD.selfs hpL ho).1 (nthO_ops ho) h.ev
  obtain ⟨i, rs⟩ := p
  simp only [evDo] at hev
  have hfin : ∀ K' σ' w' v c, evNextD C.E C.ops.toList rs L2 o.dst fr C.Q v σ' → R K' σ' w' → VR K' σ'.length v c → Step K σ w K' σ' w' → KK (a.put o.dst c) w' := by
    intro K' σ' w' v c g0 g1 g2 g3
    obtain ⟨fr', hfr, hrec, hev', hN⟩ : ∃ fr', (fr' = match o.dst with | none => fr | some d => fr.put d v) ∧ recheck C.E C.ops.toList fr' σ' rs ∧ evD C.E C.ops.toList L2 fr' σ' C.Q ∧ ∀ d, o.dst = some d → d < C.E.N := by
      unfold evNextD at g0
      cases hd : o.dst with
      | none => rw [hd] at g0; exact ⟨_, rfl, g0.1, g0.2, fun d h => by cases h⟩
      | some d => rw [hd] at g0; exact ⟨_, rfl, g0.2.1, g0.2.2, fun d' h => by simp at h; subst h; exact g0.1⟩
    have hget : ∀ t, o.dst ≠ some t → fr'.get t = fr.get t := fun t ht => by
      subst hfr
      cases hd : o.dst with
      | none => rfl
      | some d =>
        simp only
        rw [Fr.get_put, if_neg (fun e => ht (by rw [hd, e]))]
    refine hk K' σ' w' fr' _ ⟨hs2, hev', fun j oj hj hX e he hbd => ?_, fun q hq => ?_, fun q hq hX => ?_, fun q hq q' hq' h1 h2 => ?_, ?_, fun t u hu => ?_, g1, h.step.trans g3, ?_⟩
    · rcases hX with hX | rfl
      · exact .inl (h.closed j oj hj hX e he hbd)
      · simp only at ho; rw [ho] at hj; simp at hj; subst hj; exact .inl (hr e he hbd)
    · rcases List.mem_append.1 hq with hq | hq
      · rcases h.p1 q hq with m | ⟨oq, m1, m2, b, u, l1, l2, l3, l4⟩
        · exact .inl (.inl m)
        · have h2 := hD.two h.split hq (q := (i, rs)) (by simp) m1 ho
          rcases h2.eff with m | m | m | m | ⟨m3, m4⟩
          · rw [hn] at m; cases m
          · rw [hA] at m; cases m
          · rw [m2] at m; cases m
          · exact .inl (.inl (pred_in hD.masks h.closed q.1 i o ho hr m))
          · have hlk : ∀ t ∈ oq.looksAt C.ops, fr.get t = fr'.get t := fun t ht => (hget t fun e => m3 t e (List.mem_append_right _ ht)).symm
            have hdst : ∀ d, oq.dst = some d → fr'.get d = fr.get d := fun d hd => hget d fun e => m3 d e (List.mem_append_left _ (by rw [hd]; simp))
            refine .inr ⟨oq, m1, m2, b, ?_⟩
            have hw' : wantA C.ops.toList fr' oq.guard = some b := by rw [← wantA_like hlk]; exact l1
            cases hl : isL oq.op with
            | false =>
              refine ⟨u, hw', fun hb => ?_, l3, fun d hd => ⟨(l4 d hd).1, by rw [hdst d hd]; exact (l4 d hd).2⟩⟩
              rw [← nop_like _ (like_of hlk)]
              exact nop_pure (isNp_or m2) hl (l2 hb)
            | true =>
              have hre := recheck_mem hrec (m4 hl)
              rw [nthO_ops m1] at hre
              simp only [reOK, hw'] at hre
              cases b with
              | false =>
                refine ⟨u, hw', fun hb => (by cases hb), l3, fun d hd => ⟨(l4 d hd).1, by rw [hdst d hd]; exact (l4 d hd).2⟩⟩
              | true =>
                simp only at hre
                cases hh : hop C.E.ty fr' σ' oq.op with
                | none => rw [hh] at hre; exact hre.elim
                | some q2 =>
                  obtain ⟨v', σx⟩ := q2
                  rw [hh] at hre
                  have ha : nop C.E fr' σ' oq.type oq.op = some (v', σx) := by rw [nop_load hl]; exact hh
                  have e := nop_N (isNp_or m2) ha
                  refine ⟨v', hw', fun _ => by rw [ha, e], fun hb => (by cases hb), fun d hd => ⟨(l4 d hd).1, ?_⟩⟩
                  rw [hd] at hre
                  exact hre
      · simp at hq; subst hq; exact .inl (.inr rfl)
    · have hX' : X q.1 := hX.resolve_right fun e => hne q hq e.symm
      exact h.early hD g3 ho (List.mem_cons_of_mem _ hq) hX' (hpos q hq)
    · exact h.inj q (by simp [hq]) q' (by simp [hq']) (h1.resolve_right fun e => hne q hq e.symm) (h2.resolve_right fun e => hne q' hq' e.symm)
    · rw [put_size]; exact h.fsz
    · by_cases e : o.dst = some t
      · refine .inl ⟨c, ?_, ?_⟩
        · rw [e]; simp [Act.put, h.fsz, hN t e]
        · subst hfr
          rw [e] at hu
          simp only [Fr.get_put, if_true, Option.some.injEq] at hu
          subst hu; exact g2
      · rw [hget t e] at hu
        rcases h.fr t u hu with ⟨c', m1, m2⟩ | ⟨q, m1, m2, oq, m3, m4⟩ | ⟨q, m1, m2, m3⟩
        · exact .inl ⟨c', by rw [put_get e]; exact m1, m2.mono g3.ext g3.len⟩
        · refine .inr (.inl ⟨q, by simp [m1], fun hX => ?_, oq, m3, m4⟩)
          rcases hX with hX | hX
          · exact m2 hX
          · simp only at ho; rw [hX, ho] at m3; simp at m3; subst m3; exact e m4
        · rcases List.mem_cons.1 m1 with rfl | m1
          · exact absurd m2 hx
          · exact .inr (.inr ⟨q, m1, .inl m2, m3⟩)
    · rw [put_defers]; exact h.defers
  split at hev
  · exact hev.elim
  · rename_i b hb
    have hb' : wantA C.ops.toList (fr.only (o.looksAt C.ops)) o.guard = some b := by rw [← wantA_like only_like]; exact hb
    have hw := wantA_sound hF hb'
    unfold wpOpIn
    simp only [ho]
    cases b with
    | false =>
      rw [if_neg (by rw [hw]; simp)]
      exact ⟨fun f _ => trivial, hfin K σ w _ undef (hev.2 rfl) h.rel undef_VR (.refl _ _ _)⟩
    | true =>
      rw [if_pos hw]
      have hv := hev.1 rfl
      rw [evOp_like _ (like_of (only_like (ops := C.ops)))] at hv
      exact opIn_sound hD.E hv h.rel hF fun K' σ' w' v c g0 g1 g2 g3 => hfin K' σ' w' v c g0 g1 g2 g3

theorem Inv.done (hD : DOK C) (h : Inv C X L1 L2 eb K σ w fr a) (hall : ∀ i, i < C.ops.size → X i) : Done C.E C.K0 C.σ0 C.w0 C.ds C.Q .normal a w := by
  have hL : ∀ p ∈ C.L, X p.1 := fun p hp => by
    have h1 := hD.self p hp
    unfold selfOK at h1
    cases ho : C.ops[p.1]? with
    | none => rw [ho] at h1; cases h1
    | some o => exact hall _ (Array.getElem?_eq_some_iff.1 ho).1
  obtain ⟨K', σ', fr', h1⟩ := Inv.advTo hD (M := L2) (L2 := []) (by simpa using h) (fun p hp => .inl (hL p (by rw [h.split]; simp [hp])))
  refine ⟨rfl, K', σ', fr', h1.ev, h1.rel, ⟨h1.fsz, fun t v hv => ?_⟩, h1.step, h1.defers⟩
  rcases h1.fr t v hv with m | ⟨q, m1, m2, _⟩ | ⟨q, m1, _⟩
  · exact m
  · exact absurd (hL q (by rw [h1.split]; simpa using m1)) m2
  · cases m1

/-- How many have not come up. -/
def left (size : Nat) (listed : Array Bool) : Nat := ((List.range size).filter fun i => listed.getD i true == false).length
theorem filter_lt {α : Type} {p q : α → Bool} (hpq : ∀ x, q x = true → p x = true) : ∀ {l : List α} {y : α}, y ∈ l → p y = true → q y = false → (l.filter q).length < (l.filter p).length
  | x :: l, y, hy, h1, h2 => by
    have hle : ∀ l : List α, (l.filter q).length ≤ (l.filter p).length := by
      intro l
      induction l with
      | nil => simp
      | cons z l ih =>
        by_cases hz : q z = true
        · rw [List.filter_cons_of_pos hz, List.filter_cons_of_pos (hpq z hz)]; simp; exact ih
        · rw [List.filter_cons_of_neg hz]
          by_cases hz' : p z = true
          · rw [List.filter_cons_of_pos hz']; simp; omega
          · rw [List.filter_cons_of_neg hz']; exact ih
    rcases List.mem_cons.1 hy with rfl | hy
    · rw [List.filter_cons_of_pos h1, List.filter_cons_of_neg (by rw [h2]; simp)]
      have := hle l; simp; omega
    · have ih := filter_lt hpq hy h1 h2
      by_cases hz : q x = true
      · rw [List.filter_cons_of_pos hz, List.filter_cons_of_pos (hpq x hz)]; simp; exact ih
      · rw [List.filter_cons_of_neg hz]
        by_cases hz' : p x = true
        · rw [List.filter_cons_of_pos hz']; simp; omega
        · rw [List.filter_cons_of_neg hz']; exact ih

theorem anyD (hD : DOK C) : ∀ (fuel : Nat) (listed : Array Bool) (L1 L2 : List (Nat × List Nat)) (eb : Nat → Nat) (K : Kr) (σ : List AObj) (w : World) (fr : Fr) (a : Act), listed.size = C.ops.size → left C.ops.size listed ≤ fuel →
    Inv C (fun j => listed.getD j false = true) L1 L2 eb K σ w fr a → wpAnyIn (Fw ro) n C.E.P .any C.ops (Done C.E C.K0 C.σ0 C.w0 C.ds C.Q) fuel listed a w := by
  have hget : ∀ (listed : Array Bool) (j : Nat), listed.size = C.ops.size → j < C.ops.size → listed.getD j true = listed.getD j false := fun listed j hs hj => by
    have : j < listed.size := by omega
    simp [Array.getD, this]
  have hrdy : ∀ (listed : Array Bool), listed.size = C.ops.size → Region.ready .any C.ops listed = [] → ∀ i, i < C.ops.size → listed.getD i false = true := by
    intro listed hs hr i
    induction i using Nat.strongRecOn with
    | _ i ih =>
      intro hi
      cases hc : listed.getD i false with
      | true => rfl
      | false =>
        exfalso
        have ho : C.ops[i]? = some C.ops[i] := Array.getElem?_eq_getElem hi
        have h1 := List.all_eq_true.1 hD.masks i (List.mem_range.2 hi)
        simp only [ho, Bool.and_eq_true, beq_iff_eq, List.all_eq_true, Bool.or_eq_true, Bool.not_eq_true', decide_eq_true_eq] at h1
        have hmem : i ∈ Region.ready .any C.ops listed := mem_ready.2 ⟨by rw [hget listed i hs hi]; exact hc, _, ho, fun e he hb => by
          have hlt : e.on < i := by
            rcases h1.2 e (by simpa using he) with h5 | h5
            · rw [hb] at h5; cases h5
            · exact h5
          exact ih e.on hlt (by omega)⟩
        rw [hr] at hmem; cases hmem
  have hsome : ∀ (listed : Array Bool), left C.ops.size listed = 0 → listed.size = C.ops.size → ∀ i, i < C.ops.size → listed.getD i false = true := by
    intro listed h0 hs i hi
    cases hc : listed.getD i false with
    | true => rfl
    | false =>
      unfold left at h0
      have hnil := List.length_eq_zero_iff.1 h0
      have : i ∈ ((List.range C.ops.size).filter fun i => listed.getD i true == false) := List.mem_filter.2 ⟨List.mem_range.2 hi, by rw [hget listed i hs hi, hc]; rfl⟩
      rw [hnil] at this; cases this
  intro fuel
  induction fuel with
  | zero =>
    intro listed L1 L2 eb K σ w fr a hs hl h
    have hall := hsome listed (by omega) hs
    refine ⟨?_, h.done hD hall⟩
    apply List.eq_nil_iff_forall_not_mem.2
    intro i hi
    obtain ⟨h1, o, ho, _⟩ := mem_ready.1 hi
    have hlt := (Array.getElem?_eq_some_iff.1 ho).1
    rw [hget listed i hs hlt, hall i hlt] at h1; cases h1
  | succ fuel ih =>
    intro listed L1 L2 eb K σ w fr a hs hl h
    refine ⟨fun hr => h.done hD (hrdy listed hs hr), fun i hi => ?_⟩
    obtain ⟨h1, o, ho, hdeps⟩ := mem_ready.1 hi
    have hlt := (Array.getElem?_eq_some_iff.1 ho).1
    rw [hget listed i hs hlt] at h1
    have hx : ¬ listed.getD i false = true := by rw [h1]; simp
    -- the set grows
    have hset : (fun j => (listed.setIfInBounds i true).getD j false = true) = fun j => listed.getD j false = true ∨ j = i := by
      funext j
      apply propext
      by_cases e : i = j
      · subst e; simp [hs, hlt]
      · rw [getD_set_ne false e]
        constructor
        · intro h; exact .inl h
        · rintro (h | h)
          · exact h
          · exact absurd h.symm e
    have hleft : left C.ops.size (listed.setIfInBounds i true) ≤ fuel := by
      have : left C.ops.size (listed.setIfInBounds i true) < left C.ops.size listed := by
        refine filter_lt (fun x hx => ?_) (List.mem_range.2 hlt) (by rw [hget listed i hs hlt, h1]; rfl) ?_
        · by_cases e : i = x
          · subst e; simp [hs, hlt] at hx
          · rw [getD_set_ne true e] at hx; exact hx
        · simp [hs, hlt]
      omega
    have hcont : ∀ L1 L2 eb K' σ' w' fr' a', Inv C (fun j => listed.getD j false = true ∨ j = i) L1 L2 eb K' σ' w' fr' a' → wpAnyIn (Fw ro) n C.E.P .any C.ops (Done C.E C.K0 C.σ0 C.w0 C.ds C.Q) fuel (listed.setIfInBounds i true) a' w' := by
      intro L1 L2 eb K' σ' w' fr' a' h'
      exact ih _ L1 L2 eb K' σ' w' fr' a' (by simpa using hs) hleft (by rw [hset]; exact h')
    obtain ⟨p, hpL, rfl⟩ := hD.all i hlt
    have hpL' := hpL
    rw [h.split] at hpL'
    rcases List.mem_append.1 hpL' with hp | hp
    · exact h.execN hD hp hx ho hdeps fun K' w' a' h' => hcont _ _ _ _ _ _ _ _ h'
    · cases hA : isA C.E.ty C.E.N o with
      | true => exact h.execA hD hp hx ho hA hdeps fun eb' w' a' h' => hcont _ _ _ _ _ _ _ _ h'
      | false =>
        obtain ⟨M, M', rfl⟩ := List.append_of_mem hp
        obtain ⟨K1, σ1, fr1, h2⟩ := Inv.advTo hD (M := M) (L2 := p :: M') h (fun q hq => by
          have hqL : q ∈ C.L := by rw [h.split]; simp [hq]
          have hq1 := hD.self q hqL
          unfold selfOK at hq1
          cases hoq : C.ops[q.1]? with
          | none => rw [hoq] at hq1; cases hq1
          | some oq =>
            have hs3 : C.L = (L1 ++ M) ++ (p :: M') := by rw [h.split]; simp
            rcases (hD.two hs3 (p := q) (q := p) (by simp [hq]) (by simp) hoq ho).dep with m | m | m
            · rw [hA] at m; cases m
            · exact .inr ⟨oq, rfl, m⟩
            · exact .inl (pred_in hD.masks h.closed q.1 p.1 o ho hdeps m))
        cases hn : isNp p o with
        | true =>
          obtain ⟨fr2, h3⟩ := h2.advN hD hx ho hn
          exact h3.execN hD (by simp) hx ho hdeps fun K' w' a' h' => hcont _ _ _ _ _ _ _ _ h'
        | false => exact h2.execE hD hx ho hn hA hdeps fun K' σ' w' fr' a' h' => hcont _ _ _ _ _ _ _ _ h'

/-- A STATEMENT WHOSE ORDER IS DRAWN. -/
theorem ARun.drawn {E : Env} (hE : EnvOK E) {id : Nat} {ops : Array Oper} (c : List Nat × List (Nat × List Nat)) (hL : drawOK E.ty E.N ops c = true) {k : List Item} {fr : Fr} {σ : List AObj} {Q : Option Code → Fr → List AObj → Prop}
    (h : evD E ops.toList c.2 fr σ fun fr σ => ARun E ro k fr σ Q) : ARun E ro (.code (.region id ops true) :: k) fr σ Q := by
  intro K w a b cs hb hR hF
  let w1 : World := { w with drawn := w.drawn + 1 }
  let C : Ctx := ⟨E, ops, c.1, c.2, K, σ, w1, a.defers, fun fr σ => ARun E ro k fr σ Q⟩
  have hD : DOK C := DOK.of (C := C) hE hL
  have hI : Inv C (fun j => (Array.replicate ops.size false).getD j false = true) [] c.2 (fun _ => 0) K σ w1 fr a := by
    have hno : ∀ j, ¬ ((Array.replicate ops.size false).getD j false = true) := fun j h => by
      by_cases hj : j < ops.size <;> simp [hj, Array.getElem?_replicate] at h
    refine ⟨rfl, h, fun j o _ hX => absurd hX (hno j), fun p hp => (by cases hp), fun p _ hX => absurd hX (hno _), fun p _ q _ hX => absurd hX (hno _), hF.1, fun t v hv => .inl (hF.2 t v hv), hR.drew _, .refl _ _ _, rfl⟩
  have hw := anyD (ro := b.roundOf) (n := 0) hD ops.size (Array.replicate ops.size false) [] c.2 (fun _ => 0) K σ w1 fr a (by simp; rfl) (by
    unfold left
    exact Nat.le_trans (List.length_filter_le _ _) (by simp; exact Nat.le_refl _)) hI
  have hw2 : (Code.region id ops true).wpIn (Fw b.roundOf) 0 E.P (Done E K σ w1 a.defers fun fr σ => ARun E ro k fr σ Q) a w := wpIn_region_any hE.mixed hw
  obtain ⟨e, a', w', ⟨rfl, K', σ', fr', hq, h2, h3, h4, h5⟩, harr⟩ := hw2 b k cs rfl trivial (Fw_room _ _)
  obtain ⟨K2, σ2, fr2, w2, a2, t2, j, ms, g1, g2, g3, g4, g5, g6, g7, g8⟩ := hq K' w' a' b cs (hb.mono h4.ext h4.len) h2 h3
  have h4' : Step K σ w K' σ' w' := .drew _ h4
  refine ⟨K2, σ2, fr2, w2, a2, t2, j, ms, g1, (StepsIn.steps harr).trans g2, g3, g4, g5, h4'.trans g6, by rw [g7, h5], ?_⟩
  exact ⟨g8.nodup, fun r hr => Nat.le_trans h4'.size (g8.lo r hr), g8.heap, g8.free⟩
end Go.Mu
set_option linter.unusedSimpArgs false
set_option linter.unusedVariables false
namespace Go.Mu
open Go

variable {E : Env} {ro : Option Nat} {K : Kr}


def ev (E : Env) (ro : Option Nat) : Nat → List Item → Fr → List AObj → Post → Prop
  | 0, todo, fr, σ, Q => ARun E ro todo fr σ Q
  | _ + 1, [], fr, σ, Q => Q none fr σ
  | n + 1, .inBlock _ :: k, fr, σ, Q => ev E ro n k fr σ Q
  | n + 1, .inScope _ :: k, fr, σ, Q => ev E ro n k fr σ Q
  | n + 1, .code c :: k, fr, σ, Q =>
    match c with
    | .skip => ev E ro n k fr σ Q
    | .label _ => ev E ro n k fr σ Q
    | .seq x y => ev E ro n (.code x :: .code y :: k) fr σ Q
    | .block id x => ev E ro n (.code x :: .inBlock id :: k) fr σ Q
    | .scope x => ev E ro n (.code x :: .inScope x :: k) fr σ Q
    | .cond c x y => match aeval fr c with
      | some (.bool t) => (t = true → ev E ro n (.code x :: k) fr σ Q) ∧ (t = false → ev E ro n (.code y :: k) fr σ Q)
      | _ => False
    | .exit id => match exitTo id k with
      | some k' => ev E ro n k' fr σ Q
      | none => Q (some (.exit id)) fr σ
    | .goto l => match gotoIn l k with
      | some k' => ev E ro n k' fr σ Q
      | none => False
    | .ret => Q (some .ret) fr σ
    | .region id ops draw => if draw then evD E ops.toList (E.ord id).2 fr.anew σ (ev E ro n k · · Q) else evOps E ops.toList ops.toList fr.anew σ (ev E ro n k · · Q)
    | c => ARun E ro (.code c :: k) fr.anew σ Q
  | _ + 1, todo, fr, σ, Q => ARun E ro todo fr.anew σ Q

/-- The orders given for the statements whose order is drawn are good ones. -/
def codeOK (E : Env) : Code → Bool
  | .region id ops draw => !draw || drawOK E.ty E.N ops (E.ord id)
  | .seq a b => codeOK E a && codeOK E b
  | .cond _ a b => codeOK E a && codeOK E b
  | .block _ a => codeOK E a
  | .loop a => codeOK E a
  | .scope a => codeOK E a
  | .rangeFunc _ _ a b => codeOK E a && codeOK E b
  | _ => true
def itemOK (E : Env) : Item → Bool
  | .code c => codeOK E c
  | .inLoop c => codeOK E c
  | .inScope c => codeOK E c
  | _ => true
def todoOK (E : Env) (todo : List Item) : Bool := todo.all (itemOK E)
theorem todoOK_cons {i : Item} {k : List Item} : todoOK E (i :: k) = (itemOK E i && todoOK E k) := rfl
theorem exitTo_OK {id : Nat} : ∀ {k k' : List Item}, exitTo id k = some k' → todoOK E k = true → todoOK E k' = true
  | [], _, h, _ => by simp [exitTo] at h
  | i :: k, k', h, hk => by
    rw [todoOK_cons, Bool.and_eq_true] at hk
    cases i with
    | inBlock id' =>
      simp only [exitTo] at h
      split at h
      · simp at h; subst h; exact hk.2
      · exact exitTo_OK h hk.2
    | _ => simp only [exitTo] at h; exact exitTo_OK (k := k) h hk.2
theorem findLabel_OK {l : Nat} : ∀ {c c' : Code}, findLabel c l = some c' → codeOK E c = true → codeOK E c' = true := by
  intro c
  induction c with
  | seq a b iha ihb =>
    intro c' h hc
    simp only [codeOK, Bool.and_eq_true] at hc
    simp only [findLabel] at h
    split at h
    · rename_i r hr
      simp at h; subst h
      simp only [codeOK, Bool.and_eq_true]
      exact ⟨iha hr hc.1, hc.2⟩
    · exact ihb h hc.2
  | label l' =>
    intro c' h hc
    simp only [findLabel] at h
    split at h
    · simp at h; subst h; rfl
    · cases h
  | _ => intro c' h hc; simp [findLabel] at h
theorem gotoIn_OK {l : Nat} : ∀ {k k' : List Item}, gotoIn l k = some k' → todoOK E k = true → todoOK E k' = true
  | [], _, h, _ => by simp [gotoIn] at h
  | i :: k, k', h, hk => by
    have hk0 := hk
    rw [todoOK_cons, Bool.and_eq_true] at hk
    cases i with
    | inScope c =>
      simp only [gotoIn] at h
      split at h
      · rename_i r hr
        simp at h; subst h
        rw [todoOK_cons, Bool.and_eq_true]
        exact ⟨findLabel_OK hr hk.1, hk0⟩
      · exact gotoIn_OK h hk.2
    | _ => simp only [gotoIn] at h; exact gotoIn_OK (k := k) h hk.2

theorem evD_mono {all : List Oper} {Q Q' : Fr → List AObj → Prop} (hq : ∀ fr σ, Q fr σ → Q' fr σ) : ∀ {L : List (Nat × List Nat)} {fr : Fr} {σ : List AObj}, evD E all L fr σ Q → evD E all L fr σ Q'
  | [], fr, σ, h => hq _ _ h
  | (i, rs) :: L, fr, σ, h => by
    rw [evD_cons] at h ⊢
    have hn : ∀ rs dst v σ', evNextD E all rs L dst fr Q v σ' → evNextD E all rs L dst fr Q' v σ' := fun rs dst v σ' h => by
      unfold evNextD at h ⊢
      split at h
      · exact ⟨h.1, evD_mono hq h.2⟩
      · exact ⟨h.1, h.2.1, evD_mono hq h.2.2⟩
    cases hb : rs == [i] with
    | true =>
      rw [hb] at h
      cases ho : nthO all i with
      | none => rw [ho] at h; exact h
      | some o =>
        rw [ho] at h
        simp only [evDs, evDp] at h ⊢
        cases hw : wantA all fr o.guard with
        | none => rw [hw] at h; exact h.elim
        | some b =>
          rw [hw] at h
          refine ⟨fun hb => ?_, fun hb => hn _ _ _ _ (h.2 hb)⟩
          have h := h.1 hb
          unfold evPc givP at h ⊢
          cases hv : valP E fr o.op with
          | none => rw [hv] at h; exact h
          | some v => rw [hv] at h; exact hn _ _ _ _ h
    | false =>
      rw [hb] at h
      cases ho : nthO all i with
      | none => rw [ho] at h; exact h
      | some o =>
        rw [ho] at h
        simp only [evDs, evDo] at h ⊢
        cases hw : wantA all fr o.guard with
        | none => rw [hw] at h; exact h.elim
        | some b =>
          rw [hw] at h
          exact ⟨fun hb => evOp_mono (hn _ _) (h.1 hb), fun hb => hn _ _ _ _ (h.2 hb)⟩

theorem ev_sound (hE : EnvOK E) {Q : Post} : ∀ {n : Nat} {todo : List Item} {fr : Fr} {σ : List AObj}, todoOK E todo = true → ev E ro n todo fr σ Q → ARun E ro todo fr σ Q
  | 0, todo, fr, σ, _, h => h
  | n + 1, [], fr, σ, _, h => .leave .nil h
  | n + 1, i :: k, fr, σ, ho, h => by
    cases i with
    | inBlock _ => exact .inBlock (ev_sound hE (by rw [todoOK_cons, Bool.and_eq_true] at ho; exact ho.2) h)
    | inScope _ => exact .inScope (ev_sound hE (by rw [todoOK_cons, Bool.and_eq_true] at ho; exact ho.2) h)
    | code c =>
      rw [todoOK_cons, Bool.and_eq_true] at ho
      obtain ⟨hc, hk⟩ := ho
      cases c with
      | skip => exact .skip (ev_sound hE hk h)
      | label _ => exact .label (ev_sound hE hk h)
      | seq x y =>
        simp only [itemOK, codeOK, Bool.and_eq_true] at hc
        exact .seq (ev_sound hE (by simp only [todoOK_cons, itemOK, hc.1, hc.2, hk, Bool.and_self]) h)
      | block id x => exact .block (ev_sound hE (by rw [todoOK_cons, todoOK_cons, Bool.and_eq_true, Bool.and_eq_true]; exact ⟨hc, rfl, hk⟩) h)
      | scope x => exact .scope (ev_sound hE (by rw [todoOK_cons, todoOK_cons, Bool.and_eq_true, Bool.and_eq_true]; exact ⟨hc, hc, hk⟩) h)
      | cond c x y =>
        simp only [itemOK, codeOK, Bool.and_eq_true] at hc
        simp only [ev] at h
        split at h
        · rename_i t hcc
          refine .cond hcc ?_
          cases t
          · exact ev_sound hE (by rw [todoOK_cons, Bool.and_eq_true]; exact ⟨hc.2, hk⟩) (h.2 rfl)
          · exact ev_sound hE (by rw [todoOK_cons, Bool.and_eq_true]; exact ⟨hc.1, hk⟩) (h.1 rfl)
        · exact h.elim
      | exit id =>
        simp only [ev] at h
        split at h
        · rename_i k' hk'; exact .exit hk' (ev_sound hE (exitTo_OK hk' hk) h)
        · rename_i hk'; exact .leave (.exit id k hk') h
      | goto l =>
        simp only [ev] at h
        split at h
        · rename_i k' hk'; exact .goto hk' (ev_sound hE (gotoIn_OK hk' hk) h)
        · exact h.elim
      | ret => exact .leave (.ret k) h
      | region id ops draw =>
        simp only [ev] at h
        split at h
        · rename_i hd
          simp only [itemOK, codeOK, hd, Bool.not_true, Bool.false_or] at hc
          subst hd
          exact .anew (.drawn hE _ hc (evD_mono (fun fr σ h => ev_sound hE hk h) h))
        · rename_i hd
          simp at hd; subst hd
          exact .anew (.region hE (evOps_mono (fun fr σ h => ev_sound hE hk h) h))
      | loop x => exact .anew h
      | rangeFunc f p x y => exact .anew h
      | refuse w => exact .anew h
    | _ => exact .anew h

/-- The rest behind a statement. -/
def evK (E : Env) (ro : Option Nat) (n : Nat) (k : List Item) (Q : Post) (fr : Fr) (σ : List AObj) : Prop := ev E ro n k fr σ Q

section rules
variable {n : Nat} {k : List Item} {fr : Fr} {σ : List AObj} {Q : Post}
theorem evK_eq : evK E ro n k Q fr σ = ev E ro n k fr σ Q := rfl
theorem ev_nil : ev E ro (n + 1) [] fr σ Q = Q none fr σ := rfl
theorem ev_inBlock {id : Nat} : ev E ro (n + 1) (.inBlock id :: k) fr σ Q = ev E ro n k fr σ Q := rfl
theorem ev_inScope {c : Code} : ev E ro (n + 1) (.inScope c :: k) fr σ Q = ev E ro n k fr σ Q := rfl
theorem ev_inLoop {c : Code} : ev E ro (n + 1) (.inLoop c :: k) fr σ Q = ARun E ro (.inLoop c :: k) fr.anew σ Q := rfl
theorem ev_skip : ev E ro (n + 1) (.code .skip :: k) fr σ Q = ev E ro n k fr σ Q := rfl
theorem ev_label {l : Nat} : ev E ro (n + 1) (.code (.label l) :: k) fr σ Q = ev E ro n k fr σ Q := rfl
theorem ev_seq {x y : Code} : ev E ro (n + 1) (.code (.seq x y) :: k) fr σ Q = ev E ro n (.code x :: .code y :: k) fr σ Q := rfl
theorem ev_block {id : Nat} {x : Code} : ev E ro (n + 1) (.code (.block id x) :: k) fr σ Q = ev E ro n (.code x :: .inBlock id :: k) fr σ Q := rfl
theorem ev_scope {x : Code} : ev E ro (n + 1) (.code (.scope x) :: k) fr σ Q = ev E ro n (.code x :: .inScope x :: k) fr σ Q := rfl
theorem ev_cond {c : Operand} {x y : Code} : ev E ro (n + 1) (.code (.cond c x y) :: k) fr σ Q = match aeval fr c with
      | some (.bool t) => (t = true → ev E ro n (.code x :: k) fr σ Q) ∧ (t = false → ev E ro n (.code y :: k) fr σ Q)
      | _ => False := rfl
theorem ev_exit {id : Nat} : ev E ro (n + 1) (.code (.exit id) :: k) fr σ Q = match exitTo id k with
      | some k' => ev E ro n k' fr σ Q
      | none => Q (some (.exit id)) fr σ := rfl
theorem ev_goto {l : Nat} : ev E ro (n + 1) (.code (.goto l) :: k) fr σ Q = match gotoIn l k with
      | some k' => ev E ro n k' fr σ Q
      | none => False := rfl
theorem ev_ret : ev E ro (n + 1) (.code .ret :: k) fr σ Q = Q (some .ret) fr σ := rfl
theorem ev_region {id : Nat} {ops : List Oper} : ev E ro (n + 1) (.code (.region id ops.toArray false) :: k) fr σ Q = evOps E ops ops fr.anew σ (evK E ro n k Q) := rfl
theorem ev_loop {c : Code} : ev E ro (n + 1) (.code (.loop c) :: k) fr σ Q = ARun E ro (.code (.loop c) :: k) fr.anew σ Q := rfl

theorem exitTo_block {id id' : Nat} : exitTo id (.inBlock id' :: k) = if id' = id then some k else exitTo id k := by
  simp [exitTo, beq_iff_eq]
theorem exitTo_code {id : Nat} {c : Code} : exitTo id (.code c :: k) = exitTo id k := rfl
theorem exitTo_loop {id : Nat} {c : Code} : exitTo id (.inLoop c :: k) = exitTo id k := rfl
theorem exitTo_scope {id : Nat} {c : Code} : exitTo id (.inScope c :: k) = exitTo id k := rfl
theorem exitTo_nil {id : Nat} : exitTo id [] = none := rfl

theorem ev_draw {id : Nat} {ops : List Oper} : ev E ro (n + 1) (.code (.region id ops.toArray true) :: k) fr σ Q = evD E ops (E.ord id).2 fr.anew σ (evK E ro n k Q) := rfl
@[congr] theorem ev_congr {n : Nat} {todo : List Item} {fr fr' : Fr} {σ σ' : List AObj} {Q : Post} (h1 : fr = fr') (h2 : σ = σ') : ev E ro n todo fr σ Q = ev E ro n todo fr' σ' Q := by rw [h1, h2]
@[congr] theorem evK_congr {k : List Item} {Q : Post} {fr fr' : Fr} {σ σ' : List AObj} (h1 : fr = fr') (h2 : σ = σ') : evK E ro n k Q fr σ = evK E ro n k Q fr' σ' := by rw [h1, h2]
end rules

section draws
variable {all : List Oper} {fr : Fr} {σ : List AObj} {Q : Fr → List AObj → Prop} {L : List (Nat × List Nat)} {rs : List Nat}
theorem evD_nil : evD E all [] fr σ Q = Q fr σ := rfl
@[congr] theorem evD_congr {fr' : Fr} {σ' : List AObj} {L L' : List (Nat × List Nat)} (h0 : L = L') (h1 : fr = fr') (h2 : σ = σ') : evD E all L fr σ Q = evD E all L' fr' σ' Q := by rw [h0, h1, h2]
@[congr] theorem evDo_congr {fr' : Fr} {σ' : List AObj} {o o' : Option Oper} (h0 : o = o') (h1 : fr = fr') (h2 : σ = σ') : evDo E all rs L fr σ Q o = evDo E all rs L fr' σ' Q o' := by rw [h0, h1, h2]
@[congr] theorem evNextD_congr {dst : Option Tmp} {fr fr' : Fr} {v v' : AV} {σ σ' : List AObj} (h1 : fr = fr') (h2 : v = v') (h3 : σ = σ') : evNextD E all rs L dst fr Q v σ = evNextD E all rs L dst fr' Q v' σ' := by rw [h1, h2, h3]
@[congr] theorem nthO_congr {i : Nat} : nthO all i = nthO all i := rfl
@[congr] theorem recheck_congr {fr' : Fr} {σ' : List AObj} (h1 : fr = fr') (h2 : σ = σ') : recheck E all fr σ rs = recheck E all fr' σ' rs := by rw [h1, h2]
@[congr] theorem reOK_congr {fr' : Fr} {σ' : List AObj} {o o' : Option Oper} (h0 : o = o') (h1 : fr = fr') (h2 : σ = σ') : reOK E all fr σ o = reOK E all fr' σ' o' := by rw [h0, h1, h2]
theorem nthO_zero {o : Oper} {l : List Oper} : nthO (o :: l) 0 = some o := rfl
theorem nthO_succ {o : Oper} {l : List Oper} {i : Nat} : nthO (o :: l) (i + 1) = nthO l i := rfl
theorem recheck_nil : recheck E all fr σ [] = True := rfl
theorem recheck_cons {r : Nat} : recheck E all fr σ (r :: rs) = (reOK E all fr σ (nthO all r) ∧ recheck E all fr σ rs) := rfl
theorem reOK_plain {d : Tmp} {op : Op} {type : TypeId} {pos : String} {after : Array Edge} : reOK E all fr σ (some ⟨some d, op, type, pos, after, none⟩) = give2 (fun v _ => fr.get d = some v) (hop E.ty fr σ op) := by
  simp only [reOK, wantA]
  cases hop E.ty fr σ op with
  | none => rfl
  | some q => rfl
theorem evDo_plain {dst : Option Tmp} {op : Op} {type : TypeId} {pos : String} {after : Array Edge} : evDo E all rs L fr σ Q (some ⟨dst, op, type, pos, after, none⟩) = evOp E fr σ type op (evNextD E all rs L dst fr Q) := by
  simp [evDo, wantA]
theorem evDp_plain {dst : Option Tmp} {op : Op} {type : TypeId} {pos : String} {after : Array Edge} : evDp E all L fr σ Q (some ⟨dst, op, type, pos, after, none⟩) = evPc E fr σ op (evNextD E all [] L dst fr Q) := by
  simp [evDp, wantA]
theorem evPc_call {f : Operand} {args : Array Operand} {ats : Array TypeId} {X : AV → List AObj → Prop} : evPc E fr σ (.call ⟨.value f, args, ats⟩) X = givP X σ (callP E (aeval fr f) (aevals fr args.toList)) := rfl
def isSelf : List Nat → Nat → Bool
  | [j], i => j == i
  | _, _ => false
theorem isSelf_nil {i : Nat} : isSelf [] i = false := rfl
theorem isSelf_one {i j : Nat} : isSelf [j] i = (j == i) := rfl
theorem isSelf_two {i a b : Nat} {l : List Nat} : isSelf (a :: b :: l) i = false := rfl
theorem isSelf_eq {i : Nat} : ∀ {l : List Nat}, (l == [i]) = isSelf l i
  | [] => rfl
  | [j] => by simp [isSelf]
  | a :: b :: l => by simp [isSelf]
theorem evD_consW {i : Nat} {rs : List Nat} {L : List (Nat × List Nat)} : evD E all ((i, rs) :: L) fr σ Q = evDs E all rs L fr σ Q (nthO all i) (isSelf rs i) := by rw [evD_cons, isSelf_eq]
theorem evDo_guard {dst : Option Tmp} {op : Op} {type : TypeId} {pos : String} {after : Array Edge} {j : Nat} {want : Bool} : evDo E all rs L fr σ Q (some ⟨dst, op, type, pos, after, some (j, want)⟩) =
    match dstOf all j with
    | none => False
    | some d => match fr.get d with
      | some (.bool b) => (b = want → evOp E fr σ type op (evNextD E all rs L dst fr Q)) ∧ (b = !want → evNextD E all rs L dst fr Q (.tup []) σ)
      | some (.tup []) => evNextD E all rs L dst fr Q (.tup []) σ
      | _ => False := by
  simp only [evDo, wantA, dstOf_eq]
  cases dstOf all j with
  | none => rfl
  | some d =>
    simp only
    cases h : fr.get d with
    | none => rfl
    | some v =>
      cases v with
      | bool b => cases b <;> cases want <;> simp
      | tup vs => cases vs <;> simp
      | _ => rfl
theorem evNextD_none {v : AV} : evNextD E all rs L none fr Q v σ = (recheck E all fr σ rs ∧ evD E all L fr σ Q) := rfl
theorem evNextD_some {d : Tmp} {v : AV} : evNextD E all rs L (some d) fr Q v σ = (d < E.N ∧ recheck E all (fr.put d v) σ rs ∧ evD E all L (fr.put d v) σ Q) := rfl
end draws

/-- What a function gives back. -/
def giveR (Q : AV → List AObj → Prop) (σ : List AObj) : Option (List AV) → Prop
  | some vs => Q (oneOf vs) σ
  | none => False
def retPost (E : Env) (rs : List ResultVar) (Q : AV → List AObj → Prop) : Post := fun j fr σ => (j = none ∨ j = some .ret) ∧ giveR Q σ (resAs E fr σ rs)
section rets
variable {rs : List ResultVar} {Q : AV → List AObj → Prop} {fr : Fr} {σ : List AObj}
theorem retPost_ret : retPost E rs Q (some .ret) fr σ = giveR Q σ (resAs E fr σ rs) := by simp [retPost]
theorem retPost_none : retPost E rs Q none fr σ = giveR Q σ (resAs E fr σ rs) := by simp [retPost]
@[congr] theorem retPost_congr {j j' : Option Code} {fr fr' : Fr} {σ σ' : List AObj} (h0 : j = j') (h1 : fr = fr') (h2 : σ = σ') : retPost E rs Q j fr σ = retPost E rs Q j' fr' σ' := by rw [h0, h1, h2]
theorem giveR_some {vs : List AV} : giveR Q σ (some vs) = Q (oneOf vs) σ := rfl
theorem oneOf_one {v : AV} : oneOf [v] = v := rfl
theorem oneOf_nil : oneOf [] = .tup [] := rfl
theorem oneOf_more {u v : AV} {vs : List AV} : oneOf (u :: v :: vs) = .tup (u :: v :: vs) := rfl
end rets

/-- A CALL, FROM THE WALK OF THE BODY. -/
theorem ACalls.of_ev (hE : EnvOK E) {f : FuncId} {fn : Func} {c : Code} {args : List AV} {σ : List AObj} {Q : AV → List AObj → Prop} (kp : Nat → Bool) (hf : E.P.funcs[f]? = some fn) (hb : fn.body = some c) (hN : fn.ntmps = E.N) (hA : args.length ≤ E.N)
    (hC : Callable E.P f) (hO : todoOK E [.code c] = true)
    (h : ev E none 100000 [.code c] ⟨kp, [], number 0 args⟩ σ (retPost E fn.results.toList Q)) : ACalls E.P f args σ Q := by
  refine ACalls.of_run hE kp hf hb hN hA hC ((ev_sound hE hO h).mono fun j fr σ' ⟨h1, h2⟩ => ⟨h1, ?_⟩)
  cases hr : resAs E fr σ' fn.results.toList with
  | none => rw [hr] at h2; exact h2.elim
  | some vs => rw [hr] at h2; exact ⟨vs, rfl, h2⟩

/-- Fewer slots known. -/
def subF : List (Nat × AV) → List (Nat × AV) → Prop
  | [], _ => True
  | (d, v) :: l, sl => lookA sl d = some v ∧ subF l sl
theorem subF_look {sl : List (Nat × AV)} : ∀ {l : List (Nat × AV)}, subF l sl → ∀ t v, lookA l t = some v → lookA sl t = some v
  | [], _, t, v, h => by simp [lookA] at h
  | (d, u) :: l, hs, t, v, h => by
    simp only [lookA] at h
    by_cases e : d = t
    · subst e; rw [if_pos rfl] at h; simp at h; subst h; exact hs.1
    · rw [if_neg e] at h; exact subF_look hs.2 t v h
theorem ARun.sub {kp : Nat → Bool} {tm sl sl' : List (Nat × AV)} {todo : List Item} {σ : List AObj} {Q : Post} (h : ARun E ro todo ⟨kp, [], sl'⟩ σ Q) (hs : subF sl' sl) : ARun E ro todo ⟨kp, tm, sl⟩ σ Q :=
  fun K w a b cs hb hR hF => h K w a b cs hb hR (hF.sub fun t v hv => by
    have hv' : (if kp t = true then lookA sl' t else lookA [] t) = some v := hv
    show (if kp t = true then lookA sl t else lookA tm t) = some v
    by_cases hk : kp t = true
    · rw [if_pos hk] at hv' ⊢; exact subF_look hs t v hv'
    · rw [if_neg hk] at hv'; cases hv')
/-- A loop. -/
theorem ARun.loopI {c : Code} {k : List Item} {fr : Fr} {σ : List AObj} {Q : Post} {α : Type} (I : α → Fr → List AObj → Prop) (m : α → Nat) (x0 : α) (h0 : I x0 fr σ)
    (hs : ∀ x fr σ, I x fr σ → (∀ y fr' σ', m y < m x → I y fr' σ' → ARun E ro (.inLoop c :: k) fr' σ' Q) → ARun E ro (.code c :: .inLoop c :: k) fr σ Q) : ARun E ro (.code (.loop c) :: k) fr σ Q := by
  have key : ∀ n x fr σ, m x = n → I x fr σ → ARun E ro (.code c :: .inLoop c :: k) fr σ Q := by
    intro n
    induction n using Nat.strongRecOn with
    | _ n ih =>
      intro x fr σ hm hi
      exact hs x fr σ hi fun y fr' σ' hlt hy => .inLoop (ih (m y) (by omega) y fr' σ' rfl hy)
  exact .loop (key _ x0 fr σ rfl h0)

/-- Lists of integers. -/
def ints (t : Tok) (xs : List Int) : AV := .list t 1 (xs.map (AV.int .i64))
theorem idx_map {α : Type} {f : α → AV} {l : List α} {i : Nat} (h : i < l.length) : idx (l.map f) (i : Int) = some (f l[i]) := by
  unfold idx
  rw [if_pos (by omega)]
  simp [h]
end Go.Mu
set_option linter.unusedSimpArgs false
set_option linter.unusedVariables false
namespace Go.Mu
open Go

/-- A value that names objects below a bound alone. -/
inductive Lt (n : Nat) : AV → Prop
  | bool (b : Bool) : Lt n (.bool b)
  | int (k : IntKind) (i : Int) : Lt n (.int k i)
  | str (s : ByteArray) : Lt n (.str s)
  | ptr (r off : Nat) (h : r < n) : Lt n (.ptr r off)
  | nilptr : Lt n .nilptr
  | eptr (cs : List AV) (off : Nat) (h : ∀ j (hj : j < cs.length), Lt n (cs[j])) : Lt n (.eptr cs off)
  | list (t : Tok) (sz : Nat) (xs : List AV) (ht : ∀ id, t = .own id → id < n)
      (h : ∀ i j (hi : i < xs.length) (hj : j < (xs[i]).cells.length), Lt n ((xs[i]).cells[j])) : Lt n (.list t sz xs)
  | arr (r off len : Nat) (h : r < n) : Lt n (.arr r off len)
  | map (r : Nat) (h : r < n) : Lt n (.map r)
  | nilmap : Lt n .nilmap
  | fn (f : Fn) (first cap : List AV) (g1 : ∀ i (h : i < first.length), Lt n (first[i])) (g2 : ∀ i (h : i < cap.length), Lt n (cap[i])) : Lt n (.fn f first cap)
  | yield (r : Nat) (h : r < n) : Lt n (.yield r)
  | nilfn : Lt n .nilfn
  | iface (t : TypeId) (v : AV) (h : Lt n v) : Lt n (.iface t v)
  | niliface : Lt n .niliface
  | agg (cs : List AV) (h : ∀ i (h : i < cs.length), Lt n (cs[i])) : Lt n (.agg cs)
  | tup (cs : List AV) (h : ∀ i (h : i < cs.length), Lt n (cs[i])) : Lt n (.tup cs)

theorem VR.lt {K : Kr} {n : Nat} {v : AV} {c : Value} (h : VR K n v c) : Lt n v := by
  induction h with
  | bool b => exact .bool b
  | int k i => exact .int k i
  | str s => exact .str s
  | ptr r off h => exact .ptr r off h
  | nilptr => exact .nilptr
  | eptr cs off b o f hS h1 _ ih => exact .eptr cs off ih
  | list t sz xs a cap f hl ht ha hs h1 _ ih => exact .list t sz xs (fun id e => by subst e; exact ht.1) ih
  | arr r off len a cap h hl ha => exact .arr r off len h
  | map r h => exact .map r h
  | nilmap => exact .nilmap
  | fn f first cap first' cap' h1 h2 _ _ i1 i2 => exact .fn f first cap (fun i h => i1 i h (by omega)) (fun i h => i2 i h (by omega))
  | yield r h => exact .yield r h
  | nilfn => exact .nilfn
  | iface t v c _ ih => exact .iface t v ih
  | niliface => exact .niliface
  | agg cs cs' hl h1 _ ih => exact .agg cs fun i h => ih i h (by omega)
  | tup cs cs' hl _ ih => exact .tup cs fun i h => ih i h (by omega)

theorem VR.down {K : Kr} {n n' : Nat} {v : AV} {c : Value} (h : VR K n' v c) (h0 : Lt n v) : VR K n v c := by
  induction h with
  | bool b => exact .bool b
  | int k i => exact .int k i
  | str s => exact .str s
  | ptr r off h => cases h0 with | ptr _ _ h0 => exact .ptr r off h0
  | nilptr => exact .nilptr
  | eptr cs off b o f hS h1 _ ih => cases h0 with | eptr _ _ h0 => exact .eptr cs off b o f hS h1 fun j hj => ih j hj (h0 j hj)
  | list t sz xs a cap f hl ht ha hs h1 _ ih =>
    cases h0 with
    | list _ _ _ h2 h0 =>
      exact .list t sz xs a cap f hl (by
        cases t with
        | no => trivial
        | full => exact ht
        | own id => exact ⟨h2 id rfl, ht.2⟩) ha hs h1 fun i j hi hj => ih i j hi hj (h0 i j hi hj)
  | arr r off len a cap h hl ha => cases h0 with | arr _ _ _ h0 => exact .arr r off len a cap h0 hl ha
  | map r h => cases h0 with | map _ h0 => exact .map r h0
  | nilmap => exact .nilmap
  | fn f first cap first' cap' h1 h2 _ _ i1 i2 => cases h0 with | fn _ _ _ g1 g2 => exact .fn f first cap first' cap' h1 h2 (fun i h h' => i1 i h h' (g1 i h)) (fun i h h' => i2 i h h' (g2 i h))
  | yield r h => cases h0 with | yield _ h0 => exact .yield r h0
  | nilfn => exact .nilfn
  | iface t v c _ ih => cases h0 with | iface _ _ h0 => exact .iface t v c (ih h0)
  | niliface => exact .niliface
  | agg cs cs' hl h1 _ ih => cases h0 with | agg _ h0 => exact .agg cs cs' hl h1 fun i h h' => ih i h h' (h0 i h)
  | tup cs cs' hl _ ih => cases h0 with | tup _ h0 => exact .tup cs cs' hl fun i h h' => ih i h h' (h0 i h)

theorem ObjR.down {K0 K : Kr} {n n' : Nat} {w0 w : World} {r : Nat} {o : AObj} (h0 : ObjR K0 n w0 r o) (h : ObjR K n' w r o) : ObjR K n w r o := by
  cases o with
  | cells cs =>
    obtain ⟨cc, E, h1, h2, h3, h4⟩ := h
    obtain ⟨cc0, E0, _, g2, _⟩ := h0
    exact ⟨cc, E, h1, ⟨h2.1, fun i a b => (h2.2 i a b).down (g2.2 i a (by have := g2.1; omega)).lt⟩, h3, h4⟩
  | tail m sz => exact h
  | map es =>
    obtain ⟨es', clock, h1, h2, h3, h4⟩ := h
    obtain ⟨es0, clock0, _, g2, _, g4⟩ := h0
    refine ⟨es', clock, h1, h2, h3, fun i a b => ?_⟩
    obtain ⟨k1, k2, k3⟩ := h4 i a b
    obtain ⟨l1, l2, _⟩ := g4 i a (by omega)
    exact ⟨k1.down l1.lt, k2.down l2.lt, k3⟩
  | iter m c s =>
    obtain ⟨m', h1, h2⟩ := h
    obtain ⟨m0, _, g2⟩ := h0
    refine ⟨m', h1, ?_⟩
    cases m with
    | none => exact h2
    | some q => exact ⟨g2.1, h2.2⟩
  | loop st pend fn params assign body N fr =>
    obtain ⟨l, h1, h2, h3, h4, h5, h6, h7, h8⟩ := h
    obtain ⟨l0, _, _, _, _, _, _, _, g8⟩ := h0
    refine ⟨l, h1, h2, h3, h4, h5, h6, h7, h8.1, fun t v hv => ?_⟩
    obtain ⟨c, k1, k2⟩ := h8.2 t v hv
    obtain ⟨c0, _, l2⟩ := g8.2 t v hv
    exact ⟨c, k1, k2.down l2.lt⟩
  | dead => trivial

/-- A call's dead objects are dropped. -/
theorem R.drop {K0 K : Kr} {σ junk : List AObj} {w0 w : World} (h0 : R K0 σ w0) (h : R K (σ ++ junk) w) (hS : Step K0 σ w0 K (σ ++ junk) w) : R K σ w ∧ Step K0 σ w0 K σ w := by
  have hlt : ∀ {r o}, σ[r]? = some o → r < σ.length := fun h => (List.getElem?_eq_some_iff.1 h).1
  have hget : ∀ r o, σ[r]? = some o → (σ ++ junk)[r]? = some o := fun r o hr => by rw [List.getElem?_append_left (hlt hr)]; exact hr
  refine ⟨⟨h.stab, fun r o hr => (h0.obj r o hr).down (h.obj r o (hget r o hr)), fun r r' o o' b h1 h2 => h.inj r r' o o' b (hget r o h1) (hget r' o' h2)⟩, ?_⟩
  exact ⟨hS.ext, Nat.le_refl _, hS.size, fun b hb hf => by
    obtain ⟨m1, m2, m3⟩ := hS.keep b hb hf
    exact ⟨m1, fun r o hr => m2 r o (hget r o hr), m3⟩, hS.os, hS.tape, hS.output, hS.froz⟩

/-- Less is known of a value. -/
def Weak (v v' : AV) : Prop := ∀ K n c, VR K n v c → VR K n v' c
theorem Weak.refl (v : AV) : Weak v v := fun _ _ _ h => h
theorem Weak.no {t : Tok} {sz : Nat} {xs : List AV} : Weak (.list t sz xs) (.list .no sz xs) := fun K n c h => by
  cases h with
  | list _ _ _ a cap f hl ht ha hs h1 h => exact .list .no sz xs a cap f hl trivial ha hs h1 h
theorem Weak.agg {cs cs' : List AV} (hl : cs.length = cs'.length) (h : ∀ i (h : i < cs.length) (h' : i < cs'.length), Weak (cs[i]) (cs'[i])) : Weak (.agg cs) (.agg cs') := fun K n c hv => by
  cases hv with
  | agg _ cc hl' h1 h2 => exact .agg cs' cc (by omega) h1 fun i a b => h i (by omega) a K n _ (h2 i (by omega) b)
theorem Weak.tup {cs cs' : List AV} (hl : cs.length = cs'.length) (h : ∀ i (h : i < cs.length) (h' : i < cs'.length), Weak (cs[i]) (cs'[i])) : Weak (.tup cs) (.tup cs') := fun K n c hv => by
  cases hv with
  | tup _ cc hl' h2 => exact .tup cs' cc (by omega) fun i a b => h i (by omega) a K n _ (h2 i (by omega) b)

/-- A CALL THAT LEAVES THE OBJECTS AS THEY WERE. -/
theorem ACalls.clean {P : Program} {f : FuncId} {args : List AV} {σ : List AObj} {Q : AV → List AObj → Prop} (h : ACalls P f args σ fun v σ' => ∃ v' junk, σ' = σ ++ junk ∧ Weak v v' ∧ Lt σ.length v' ∧ Q v' σ) : ACalls P f args σ Q := by
  refine ⟨h.1, fun K w cargs hR hV => (h.2 K w cargs hR hV).mono ?_⟩
  rintro e w' ⟨v, c, σ', K', he, ⟨v', junk, rfl, hw, hlt, hq⟩, hv, hR', hS⟩
  obtain ⟨r1, r2⟩ := hR.drop hR' hS
  exact ⟨v', c, σ, K', he, hq, (hw _ _ _ hv).down hlt, r1, r2⟩

theorem Lt.ints {n : Nat} {xs : List Int} : Lt n (ints .no xs) := .list _ _ _ (fun id e => by cases e) fun i j hi hj => by
  simp [AV.cells] at hj ⊢
  exact .int _ _

/-- A step of the mind: the objects are looked at in another way. -/
theorem ARun.mind {E : Env} {ro : Option Nat} {todo : List Item} {fr fr' : Fr} {σ σ' : List AObj} {Q : Post} (h : ARun E ro todo fr' σ' Q)
    (hm : ∀ (K : Kr) (w : World) (tmps : Array Value), R K σ w → FR K σ.length E.N fr tmps → ∃ K', R K' σ' w ∧ FR K' σ'.length E.N fr' tmps ∧ Step K σ w K' σ' w) : ARun E ro todo fr σ Q := by
  intro K w a b cs hb hR hF
  obtain ⟨K', h1, h2, h3⟩ := hm K w a.tmps hR hF
  obtain ⟨K2, σ2, fr2, w2, a2, t2, j, ms, g1, g2, g3, g4, g5, g6, g7, g8⟩ := h K' w a b cs (hb.mono h3.ext h3.len) h1 h2
  exact ⟨K2, σ2, fr2, w2, a2, t2, j, ms, g1, g2, g3, g4, g5, h3.trans g6, g7, g8⟩

/-- An empty list without spare room becomes a list of our own. -/
theorem ARun.ghost {E : Env} {ro : Option Nat} {todo : List Item} {kp : Nat → Bool} {tm sl : List (Nat × AV)} {σ : List AObj} {Q : Post} (d sz : Nat) {sz0 : Nat} (hd : kp d = true) (hl : lookA sl d = some (.list .full sz0 []))
    (h : ARun E ro todo ⟨kp, [], ins sl d (.list (.own σ.length) sz [])⟩ (σ ++ [.tail 0 sz]) Q) : ARun E ro todo ⟨kp, tm, sl⟩ σ Q := by
  refine h.mind fun K w tmps hR hF => ?_
  obtain ⟨c, hc, hv⟩ := hF.2 d (.list .full sz0 []) (by show (if kp d = true then lookA sl d else lookA tm d) = _; rw [if_pos hd]; exact hl)
  cases hv with
  | list _ _ _ a cap f hl' ht ha hs h1 hh =>
    have hcap : cap = 0 := ht
    subst hcap
    let K' : Kr := { K with tl := fun q => if q = σ.length then fun m => if m = 0 then some (a, 0) else none else K.tl q }
    have he : Ext σ.length K K' := ⟨fun _ _ => rfl, fun r hr m x hx => by
      show (if r = σ.length then _ else K.tl r) m = some x
      rw [if_neg (by omega)]; exact hx, fun _ _ _ h => h⟩
    have htl : K'.tl σ.length = fun m => if m = 0 then some (a, 0) else none := by
      show (if σ.length = σ.length then _ else _) = _
      rw [if_pos rfl]
    obtain ⟨r1, r2⟩ := hR.ghostAt (σ' := σ ++ [.tail 0 sz]) σ.length (.tail 0 sz) K' he (by simp) (by simp) (fun q o' hq hg => by
      rw [List.getElem?_append] at hg
      split at hg
      · exact hg
      · cases hk : q - σ.length with
        | zero => omega
        | succ j => rw [hk] at hg; simp at hg) (fun q hq => by show (if q = σ.length then _ else K.tl q) = _; rw [if_neg hq]) rfl (fun b hb => by
      obtain ⟨a', cap', g1, g2, _⟩ := hb
      rw [htl] at g1; simp at g1; omega) ⟨a, 0, by rw [htl]; rfl, Nat.le_refl _, fun k hk => by rw [htl]; simp; omega, fun h => by omega⟩
    refine ⟨K', r1, ⟨hF.1, fun t v hv => ?_⟩, r2⟩
    have hv' : (if kp t = true then lookA (ins sl d (.list (.own σ.length) sz [])) t else lookA [] t) = some v := hv
    by_cases hk : kp t = true
    · rw [if_pos hk, lookA_ins] at hv'
      by_cases e : d = t
      · subst e
        rw [if_pos rfl] at hv'; simp at hv'; subst hv'
        refine ⟨_, hc, ?_⟩
        exact .list (.own σ.length) sz [] a 0 f (Nat.le_refl _) ⟨by simp, by rw [htl]; rfl⟩ (fun h => absurd rfl h) (fun i hi => by simp at hi) (fun i j hi => by simp at hi) (fun i j hi => by simp at hi)
      · rw [if_neg e] at hv'
        obtain ⟨c', k1, k2⟩ := hF.2 t v (by show (if kp t = true then lookA sl t else lookA tm t) = _; rw [if_pos hk]; exact hv')
        exact ⟨c', k1, k2.mono he (by simp)⟩
    · rw [if_neg hk] at hv'; cases hv'

theorem hset_hset {σ : List AObj} {r : Nat} {a b : AObj} : hset (hset σ r a) r b = hset σ r b := by unfold hset; simp
theorem hset_same {σ : List AObj} {r : Nat} {x : AObj} (h : hget σ r = some x) : hset σ r x = σ := by
  unfold hget at h; unfold hset
  obtain ⟨h1, h2⟩ := List.getElem?_eq_some_iff.1 h
  rw [← h2]; exact List.set_getElem_self h1
theorem hget_set {σ : List AObj} {r : Nat} {x : AObj} (h : hget σ r = some x) (o : AObj) : hget (hset σ r o) r = some o := by
  unfold hget at h; unfold hget hset
  have := (List.getElem?_eq_some_iff.1 h).1
  simp [this]
theorem hget_ne {σ : List AObj} {r q : Nat} {o : AObj} (h : r ≠ q) : hget (hset σ r o) q = hget σ q := by
  unfold hget hset; rw [List.getElem?_set_ne h]
theorem length_hset {σ : List AObj} {r : Nat} {o : AObj} : (hset σ r o).length = σ.length := by unfold hset; simp

theorem hget_at0 {σ l : List AObj} : hget (σ ++ l) σ.length = l[0]? := by unfold hget; rw [List.getElem?_append_right (by omega)]; simp
theorem hget_at {σ l : List AObj} {k : Nat} : hget (σ ++ l) (σ.length + k) = l[k]? := by unfold hget; rw [List.getElem?_append_right (by omega)]; simp
theorem hset_at0 {σ l : List AObj} {o : AObj} : hset (σ ++ l) σ.length o = σ ++ l.set 0 o := by unfold hset; rw [List.set_append_right _ _ (by omega)]; simp
theorem hset_at {σ l : List AObj} {k : Nat} {o : AObj} : hset (σ ++ l) (σ.length + k) o = σ ++ l.set k o := by unfold hset; rw [List.set_append_right _ _ (by omega)]; simp
end Go.Mu
set_option linter.unusedSimpArgs false
set_option linter.unusedVariables false
namespace Go.Mu
open Go

variable {E : Env} {σ : List AObj} {Q : Post}

theorem cell_of_loop {w : World} {b p : Nat} {l : Loop} (h : w.heap[b]? = some (.loop l)) : w.cell? ⟨b, p, none⟩ = none := by simp [World.cell?, h]

/-- The record of a loop is turned. -/
theorem R.turnLoop {K : Kr} {w : World} (hR : R K σ w) {r : Nat} {st : LoopState} {pend : Option Code} {fn : FuncId} {ps : Array Tmp} {as body : Code} {N : Nat} {fr : Fr} (hg : hget σ r = some (.loop st pend fn ps as body N fr)) :
    ∃ l : Loop, w.heap[K.φ r]? = some (.loop l) ∧ l.state = st ∧ l.pending = pend ∧ l.fn = fn ∧ l.params = ps ∧ l.assign = as ∧ l.body = body ∧ FR K σ.length N fr l.tmps ∧
      (∀ st' pend', R K (hset σ r (.loop st' pend' fn ps as body N fr)) { w with heap := w.heap.setIfInBounds (K.φ r) (.loop { l with state := st', pending := pend' }) } ∧
        Step K σ w K (hset σ r (.loop st' pend' fn ps as body N fr)) { w with heap := w.heap.setIfInBounds (K.φ r) (.loop { l with state := st', pending := pend' }) }) ∧
      (∀ l', R K (hset σ r .dead) { w with heap := w.heap.setIfInBounds (K.φ r) (.loop l') } ∧ Step K σ w K (hset σ r .dead) { w with heap := w.heap.setIfInBounds (K.φ r) (.loop l') }) := by
  have hr : r < σ.length := (List.getElem?_eq_some_iff.1 hg).1
  obtain ⟨l, h1, h2, h3, h4, h5, h6, h7, h8⟩ := hR.obj r _ hg
  have hlt := lt_of_heap h1
  have hS : ∀ p, K.S (K.φ r) p = none := fun p => by
    cases hk : K.S (K.φ r) p with
    | none => rfl
    | some v => have := hR.stab _ _ _ hk; rw [cell_of_loop h1] at this; cases this
  have hother : ∀ (o : Obj) b, b ≠ K.φ r → ({ w with heap := w.heap.setIfInBounds (K.φ r) o } : World).heap[b]? = w.heap[b]? := fun o b hb => by
    show (w.heap.setIfInBounds (K.φ r) o)[b]? = _
    rw [Array.getElem?_setIfInBounds_ne (Ne.symm hb)]
  have hself : ∀ (o : Obj), ({ w with heap := w.heap.setIfInBounds (K.φ r) o } : World).heap[K.φ r]? = some o := fun o => by
    show (w.heap.setIfInBounds (K.φ r) o)[K.φ r]? = _
    simp [hlt]
  refine ⟨l, h1, h2, h3, h4, h5, h6, h7, h8, fun st' pend' => ?_, fun l' => ?_⟩
  · exact hR.turn hg (K.φ r) rfl K (.refl _ _) (fun _ _ => rfl) (fun b hb => hother _ b hb) (by simp) (fun _ _ _ => rfl) (fun p v hv => by rw [hS p] at hv; cases hv) (fun b hb => hb)
      ⟨_, hself _, rfl, rfl, h4, h5, h6, h7, h8⟩ rfl rfl rfl (by rw [hself, h1]; rfl)
  · exact hR.turn hg (K.φ r) rfl K (.refl _ _) (fun _ _ => rfl) (fun b hb => hother _ b hb) (by simp) (fun _ _ _ => rfl) (fun p v hv => by rw [hS p] at hv; cases hv) (fun b hb => hb.elim) trivial rfl rfl rfl (by rw [hself, h1]; rfl)

theorem run_getLoop {P : Program} {w : World} {b : Nat} {l : Loop} (h : w.heap[b]? = some (.loop l)) : (Instr.getLoop b).run P w = .ok l w := by
  simp [Instr.getLoop, getObj, Sem.run, h]
theorem run_setLoop {P : Program} {w : World} {b : Nat} {l : Loop} (o : Obj) (h : w.heap[b]? = some (.loop l)) : (setObj b o).run P w = .ok () { w with heap := w.heap.setIfInBounds b o } := by
  simp [setObj, Sem.run, h]
theorem run_beginRound {P : Program} {w : World} {b : Nat} {l : Loop} (h : w.heap[b]? = some (.loop l)) (hs : l.state = .ready) :
    (Instr.beginRound b).run P w = .ok () { w with heap := w.heap.setIfInBounds b (.loop { l with state := .busy }) } := by
  simp [Instr.beginRound, Sem.run_bind, run_getLoop h, run_setLoop _ h, Result.andThen_ok, hs]
theorem run_endRound {P : Program} {w : World} {b : Nat} {l : Loop} (h : w.heap[b]? = some (.loop l)) (j : Option Code) :
    (Instr.endRound b j).run P w = .ok (.bool j.isNone) { w with heap := w.heap.setIfInBounds b (.loop { l with state := if j.isNone then .ready else .done, pending := j }) } := by
  simp [Instr.endRound, Sem.run_bind, run_getLoop h, run_setLoop _ h, Result.andThen_ok]
theorem run_endLoop {P : Program} {w : World} {b : Nat} {l : Loop} (h : w.heap[b]? = some (.loop l)) (hs : l.state ≠ .busy) :
    (Instr.endLoop b).run P w = .ok l.pending { w with heap := w.heap.setIfInBounds b (.loop { l with state := .exhausted }) } := by
  simp [Instr.endLoop, Sem.run_bind, run_getLoop h, run_setLoop _ h, Result.andThen_ok]
  intro hb; exact absurd hb hs

/-- What yield's arguments do to the slots. -/
def frIn : Fr → List Tmp → List AV → Fr
  | fr, t :: ts, v :: vs => frIn (fr.put t v) ts vs
  | fr, _, _ => fr
theorem frIn_sound {K : Kr} {n N : Nat} : ∀ {ts : List Tmp} {vs : List AV} {cs : List Value} {fr : Fr} {tmps : Array Value}, (∀ t ∈ ts, t < N) → VRs K n vs cs → FR K n N fr tmps → FR K n N (frIn fr ts vs) ((ts.zip cs).foldl (fun tmps p => tmps.setIfInBounds p.1 p.2) tmps)
  | [], _, _, _, _, _, _, h => h
  | t :: ts, [], cs, fr, tmps, ht, hv, h => by
    have : cs = [] := List.length_eq_zero_iff.1 hv.1.symm
    subst this; exact h
  | t :: ts, v :: vs, [], fr, tmps, ht, hv, h => absurd hv.1 (by simp)
  | t :: ts, v :: vs, c :: cs, fr, tmps, ht, hv, h => by
    have h1 : FR K n N (fr.put t v) (({ tmps := tmps, defers := [] } : Act).put (some t) c).tmps := FR.put (a := { tmps := tmps, defers := [] }) h (ht t (by simp)) hv.head
    exact frIn_sound (ts := ts) (vs := vs) (cs := cs) (fun t ht' => ht t (by simp [ht'])) ⟨by have := hv.1; simp at this; exact this, fun i a b => hv.2 (i + 1) (by simp; exact a) (by simp; exact b)⟩ h1

/-- The body of a round begins. -/
theorem ARun.beginRound {r : Nat} {k : List Item} {pend : Option Code} {fn : FuncId} {ps : Array Tmp} {as body : Code} {N : Nat} {fr fr0 : Fr} (hg : hget σ r = some (.loop .ready pend fn ps as body N fr0))
    (h : ARun E (some r) k fr (hset σ r (.loop .busy pend fn ps as body N fr0)) Q) : ARun E (some r) (.beginRound :: k) fr σ Q := by
  intro K w a b cs hb hR hF
  obtain ⟨l, h1, h2, h3, h4, h5, h6, h7, h8, h9, _⟩ := hR.turnLoop hg
  obtain ⟨r1, r2⟩ := h9 .busy l.pending
  have hset : hset σ r (.loop .busy l.pending fn ps as body N fr0) = hset σ r (.loop .busy pend fn ps as body N fr0) := by rw [h3]
  rw [hset] at r1 r2
  obtain ⟨K2, σ2, fr2, w2, a2, t2, j, ms, g1, g2, g3, g4, g5, g6, g7, g8⟩ := h K _ a b cs (hb.mono r2.ext r2.len) r1 (hF.mono r2.ext r2.len)
  refine ⟨K2, σ2, fr2, w2, a2, t2, j, ms, g1, .head (stepR_beginRound hb.2.1 (run_beginRound h1 h2)) g2, g3, g4, g5, r2.trans g6, g7, ?_⟩
  exact ⟨g8.nodup, fun q hq => Nat.le_trans r2.size (g8.lo q hq), g8.heap, g8.free⟩

/-- A CALL OF YIELD: a round. -/
theorem AYield.of {r : Nat} {args : List AV} {pend : Option Code} {fn : FuncId} {ps : Array Tmp} {as body : Code} {fr : Fr} {Y : AV → List AObj → Prop} (hg : hget σ r = some (.loop .ready pend fn ps as body E.N fr)) (hl : args.length = ps.size) (hN : ∀ t ∈ ps.toList, t < E.N)
    (h : ARun E (some r) [.code as, .beginRound, .code body] (frIn fr ps.toList args) σ fun j fr2 σ2 => (∀ t, j ≠ some (.goto t)) ∧ ∃ pend', hget σ2 r = some (.loop .busy pend' fn ps as body E.N fr) ∧ Y (.bool j.isNone) (hset σ2 r (.loop (if j.isNone then .ready else .done) j fn ps as body E.N fr))) : AYield E.P r args σ Y := by
  intro K w cargs hR hV
  obtain ⟨l, h1, h2, h3, h4, h5, h6, h7, h8, h9, _⟩ := hR.turnLoop hg
  have hr : r < σ.length := (List.getElem?_eq_some_iff.1 hg).1
  have hcl : cargs.size = args.length := by have := hV.1; simpa using this.symm
  let tmps := ((ps.toList.zip cargs.toList).foldl (fun tmps p => tmps.setIfInBounds p.1 p.2) l.tmps)
  refine ⟨fn, tmps, as, body, ?_, ?_⟩
  · simp only [Instr.yield, Sem.run_bind, run_getLoop h1, Result.andThen_ok, h5, h4, h6, h7]
    rw [if_neg (by omega)]
    simp only [Sem.run_pure, tmps]
    congr 2
    rw [← Array.foldl_toList]
    simp
  · refine ⟨trivial, fun c cs _ => ?_⟩
    let b : Frame := { (default : Frame) with fn := fn, kind := .normal, roundOf := some (K.φ r) }
    have hb0 : Frame.round (K.φ r) fn tmps as body .normal = b.atR { tmps := tmps, defers := [] } [.code as, .beginRound, .code body] := by
      simp [Frame.round, Frame.atR, b]
    obtain ⟨K2, σ2, fr2, w2, a2, t2, j, ms, g1, g2, ⟨g3, pend', g3', g3''⟩, g4, g5, g6, g7, g8⟩ := h K w { tmps := tmps, defers := [] } b (c :: cs) ⟨hr, rfl, rfl⟩ hR (frIn_sound hN hV h8)
    obtain ⟨l2, k1, k2, k3, k4, k5, k6, k7, k8, k9, _⟩ := g4.turnLoop g3'
    have hφ : K2.φ r = K.φ r := g6.ext.φ r hr
    obtain ⟨m1, m2⟩ := k9 (if j.isNone then .ready else .done) j
    rw [hφ] at k1 m1 m2
    have hend := run_endRound (P := E.P) k1 j
    refine ⟨.returned (.bool j.isNone), _, ⟨.bool j.isNone, .bool j.isNone, _, K2, rfl, g3'', .bool _, m1, g6.trans m2⟩, ?_⟩
    rw [hb0]
    refine comesIn_wide.2 (show Steps _ _ _ from g2.trans ?_)
    cases g1 with
    | nil => exact .one (stepR_round_end rfl rfl hend)
    | ret k => exact .one (stepR_round_ret rfl rfl hend)
    | exit id k hk => exact .one (stepR_round_exit rfl rfl hk hend)

/-- A RANGE OVER A FUNCTION. -/
theorem ARun.rangeFunc {f : Operand} {ps : Array Tmp} {as body : Code} {k : List Item} {fr : Fr} {g : FuncId} {p q : List AV} (hf : aeval fr f = some (.fn (.func g) p q))
    (h : ∀ fn, ACalls E.P g (p ++ [.yield σ.length] ++ q) (σ ++ [.loop .ready none fn ps as body E.N fr]) fun v σ' => ∃ st pend, st ≠ .busy ∧ hget σ' σ.length = some (.loop st pend fn ps as body E.N fr) ∧
      ARun E none ((pend.map Item.code).toList ++ k) fr (hset σ' σ.length .dead) Q) : ARun E none (.code (.rangeFunc f ps as body) :: k) fr σ Q := by
  intro K w a b cs hb hR hF
  have hb : b.roundOf = none := hb
  -- the block of the deferred calls
  let w1 := w.alloc (.deferred (some []))
  obtain ⟨r1, s1⟩ := hR.newS (.deferred (some [])) K (.refl _ _) rfl (fun b p v hv => .inl hv)
  have hfree1 : Free K σ w.heap.size := fun r o hr hb' => by have := (hR.obj r o hr).blk_lt hb'; omega
  have hh1 : w1.heap[w.heap.size]? = some (.deferred (some [])) := heap_alloc_new w _
  have hsz1 : w1.heap.size = w.heap.size + 1 := heap_alloc_size w _
  -- the loop's record
  let rec0 : Loop := { state := .ready, pending := none, fn := b.fn, tmps := a.tmps, params := ps, assign := as, body := body, defers := w.heap.size }
  let w2 := w1.alloc (.loop rec0)
  have hF1 : FR K σ.length E.N fr a.tmps := hF
  obtain ⟨r2, s2⟩ := r1.new (.loop .ready none b.fn ps as body E.N fr) (.loop rec0) (K.setφ σ.length w1.heap.size) (Ext.setφ K _ _) (fun _ _ => rfl) (fun b p v hv => .inl hv) (fun b hb => by
    have : b = (K.setφ σ.length w1.heap.size).φ σ.length := hb
    simpa only [Kr.setφ, if_true] using this)
    ⟨rec0, by simp only [Kr.setφ, if_true]; exact heap_alloc_new w1 _, rfl, rfl, rfl, rfl, rfl, rfl, hF1.mono (Ext.setφ K _ _) (by omega)⟩
  have henter : (Instr.enterLoop b.fn a.tmps ps as body b.roundOf).run E.P w = .ok (w1.heap.size, [mark w.heap.size]) w2 := by
    rw [hb]; rfl
  have hfv := aeval_sound hF hf
  generalize hfe : a.eval f = fv at hfv
  cases hfv with
  | fn _ _ _ p' q' l1 l2 g1 g2 =>
    have hres : (resolve a.eval (rangeCall f w1.heap.size) 0).run E.P w2 = .ok ⟨.fn (.func g) q'.toArray, p'.toArray ++ #[.func (.yield w1.heap.size) #[] #[]]⟩ w2 := by
      simp only [resolve, rangeCall, hfe, Deferred.ofValue, Sem.run_bind, Sem.run_pure, Result.andThen_ok]
      simp [Act.eval]
    have hA := h b.fn
    have hinv : (invoke (.fn (.func g) q'.toArray) (p'.toArray ++ #[.func (.yield w1.heap.size) #[] #[]])).run E.P w2 = .ok (.enter g (p'.toArray ++ #[.func (.yield w1.heap.size) #[] #[]] ++ q'.toArray)) w2 := by
      simp only [invoke]; exact hA.1 _ _
    have hstep := stepR_rangeFunc (P := E.P) (b := b) (a := a) (k := k) (cs := cs) henter hres hinv
    have hn2 : σ.length ≤ (σ ++ [AObj.loop .ready none b.fn ps as body E.N fr]).length := by simp
    have hVy : VR (K.setφ σ.length w1.heap.size) (σ ++ [AObj.loop .ready none b.fn ps as body E.N fr]).length (.yield σ.length) (.func (.yield w1.heap.size) #[] #[]) := by
      have := VR.yield (K := K.setφ σ.length w1.heap.size) (n := (σ ++ [AObj.loop .ready none b.fn ps as body E.N fr]).length) σ.length (by simp)
      simpa only [Kr.setφ, if_true] using this
    have hp : VRs (K.setφ σ.length w1.heap.size) (σ ++ [AObj.loop .ready none b.fn ps as body E.N fr]).length p p' := VRs.mono ⟨l1, g1⟩ s2.ext hn2
    have hq : VRs (K.setφ σ.length w1.heap.size) (σ ++ [AObj.loop .ready none b.fn ps as body E.N fr]).length q q' := VRs.mono ⟨l2, g2⟩ s2.ext hn2
    obtain ⟨e, w3, fr3, ⟨v, c, σ3, K3, rfl, ⟨st, pend, hst, hg3, hrun⟩, hv3, r3, s3⟩, hsteps, hfn, hleave⟩ := hA.2 (K.setφ σ.length w1.heap.size) w2 (p'.toArray ++ #[.func (.yield w1.heap.size) #[] #[]] ++ q'.toArray) r2 (by
      have := (hp.append (VRs.cons hVy .nil)).append hq
      simpa using this) (b.atR { a with defers := [mark w.heap.size] ++ a.defers } (.inRangeFunc w1.heap.size :: k) :: cs)
    obtain ⟨l, k1, k2, k3, k4, k5, k6, k7, k8, _, k10⟩ := r3.turnLoop hg3
    have hφ : K3.φ σ.length = w1.heap.size := by
      rw [s3.ext.φ σ.length (by simp)]; simp only [Kr.setφ, if_true]
    obtain ⟨r4, s4⟩ := k10 { l with state := .exhausted }
    rw [hφ] at k1 r4 s4
    have hend := run_endLoop (P := E.P) k1 (by rw [k2]; exact hst)
    have hend : (Instr.endLoop w1.heap.size).run E.P w3 = .ok pend { w3 with heap := w3.heap.setIfInBounds w1.heap.size (.loop { l with state := .exhausted }) } := by rw [hend, k3]
    have hK : Step K σ w1 K3 (hset σ3 σ.length .dead) { w3 with heap := w3.heap.setIfInBounds w1.heap.size (.loop { l with state := .exhausted }) } := (s2.trans s3).trans s4
    obtain ⟨K5, σ5, fr5, w5, a5, t5, j, ms, m1, m2, m3, m4, m5, m6, m7, m8⟩ := hrun K3 _ { a with defers := [mark w.heap.size] ++ a.defers } b cs hb r4 (hF.mono hK.ext hK.len)
    have hall := hK.trans m6
    have hback : Steps E.P (lone (b.atR a (.code (.rangeFunc f ps as body) :: k)) cs w) (lone (b.atR { a with defers := [mark w.heap.size] ++ a.defers } ((pend.map Item.code).toList ++ k)) cs { w3 with heap := w3.heap.setIfInBounds w1.heap.size (.loop { l with state := .exhausted }) }) := by
      refine .head hstep (hsteps.trans (.head ?_ (.one (stepR_endRangeFunc hend))))
      rw [← finish_atR_inRangeFunc w1.heap.size c]; exact step_leave_returned hleave
    have hkeep := hall.keep w.heap.size (by omega) hfree1
    refine ⟨K5, σ5, fr5, w5, a5, t5, j, ms ++ [w.heap.size], m1, hback.trans m2, m3, m4, m5, s1.trans hall, ?_, ?_⟩
    · rw [m7]; simp
    · have hw4 : w1.heap.size ≤ ({ w3 with heap := w3.heap.setIfInBounds w1.heap.size (.loop { l with state := .exhausted }) } : World).heap.size := hK.size
      refine ⟨?_, fun r hr => ?_, fun r hr => ?_, fun r hr => ?_⟩
      · rw [List.nodup_append]
        refine ⟨m8.nodup, by simp, fun x hx y hy => ?_⟩
        simp at hy; subst hy
        have := m8.lo x hx; omega
      · rcases List.mem_append.1 hr with hr | hr
        · have := m8.lo r hr; omega
        · simp at hr; omega
      · rcases List.mem_append.1 hr with hr | hr
        · exact m8.heap r hr
        · simp at hr; subst hr; rw [hkeep.1]; exact hh1
      · rcases List.mem_append.1 hr with hr | hr
        · exact m8.free r hr
        · simp at hr; subst hr; exact hkeep.2.1
end Go.Mu
set_option linter.unusedSimpArgs false
set_option linter.unusedVariables false
namespace Go.Mu
open Go

/-- Values that name no object. -/
def Plain (v : AV) : Prop := ∀ n, Lt n v
theorem Plain.int {k : IntKind} {i : Int} : Plain (.int k i) := fun _ => .int _ _
theorem Plain.bool {b : Bool} : Plain (.bool b) := fun _ => .bool _
theorem Plain.str {s : ByteArray} : Plain (.str s) := fun _ => .str _
theorem Plain.agg {cs : List AV} (h : ∀ c ∈ cs, Plain c) : Plain (.agg cs) := fun n => .agg _ fun i hi => h _ (List.getElem_mem hi) n
theorem Plain.tup {cs : List AV} (h : ∀ c ∈ cs, Plain c) : Plain (.tup cs) := fun n => .tup _ fun i hi => h _ (List.getElem_mem hi) n
theorem Plain.iface {t : TypeId} {v : AV} (h : Plain v) : Plain (.iface t v) := fun n => .iface _ _ (h n)
theorem Plain.list {sz : Nat} {xs : List AV} (h : ∀ x ∈ xs, Plain (.agg x.cells)) : Plain (.list .no sz xs) := fun n => .list _ _ _ (fun id e => by cases e) fun i j hi hj => by
  cases h _ (List.getElem_mem hi) n with
  | agg _ h => exact h j hj
theorem Plain.map {α : Type} {sz : Nat} {f : α → AV} {xs : List α} (h : ∀ x ∈ xs, Plain (.agg (f x).cells)) : Plain (.list .no sz (xs.map f)) := .list fun y hy => by
  obtain ⟨x, hx, rfl⟩ := List.mem_map.1 hy; exact h x hx
theorem Plain.cells_int {k : IntKind} {i : Int} : Plain (.agg (AV.int k i).cells) := .agg (by simp [AV.cells]; exact .int)
theorem Plain.cells_str {s : ByteArray} : Plain (.agg (AV.str s).cells) := .agg (by simp [AV.cells]; exact .str)
theorem Plain.cells_list {sz : Nat} {xs : List AV} (h : Plain (.list .no sz xs)) : Plain (.agg (AV.list .no sz xs).cells) := .agg (by simp [AV.cells]; exact h)
theorem Plain.ints {xs : List Int} : Plain (ints .no xs) := .map fun x _ => .cells_int

/-- Less is known of a value: leaf, aggregate, tuple. -/
def wk0 : AV → AV → Prop
  | .list t sz xs, .list t' sz' ys => xs = ys ∧ (sz = sz' ∨ ys = []) ∧ (t' = .no ∨ t = t')
  | v, w => v = w
def wkL (f : AV → AV → Prop) : List AV → List AV → Prop
  | [], [] => True
  | a :: as, b :: bs => f a b ∧ wkL f as bs
  | _, _ => False
def wk1 : AV → AV → Prop
  | .agg cs, .agg ds => wkL wk0 cs ds
  | v, w => wk0 v w
def wk : AV → AV → Prop
  | .tup cs, .tup ds => wkL wk1 cs ds
  | v, w => wk1 v w

theorem wk0_weak {v w : AV} (h : wk0 v w) : Weak v w := by
  unfold wk0 at h
  split at h
  · rename_i t sz xs t' sz' ys
    obtain ⟨rfl, h1, h2⟩ := h
    intro K n c hv
    cases hv with
    | list _ _ _ a cap f hl ht ha hs h1' h =>
      have ht' : TokR K n t' xs.length a cap := by
        rcases h2 with rfl | rfl
        · trivial
        · exact ht
      rcases h1 with rfl | rfl
      · exact .list t' sz xs a cap f hl ht' ha hs h1' h
      · exact .list t' sz' [] a cap f hl ht' (fun h => absurd rfl h) (fun i hi => by simp at hi) (fun i j hi => by simp at hi) (fun i j hi => by simp at hi)
  · subst h; exact Weak.refl _
theorem wkL_len {f : AV → AV → Prop} : ∀ {cs ds : List AV}, wkL f cs ds → cs.length = ds.length ∧ ∀ i (h : i < cs.length) (h' : i < ds.length), f cs[i] ds[i]
  | [], [], _ => ⟨rfl, fun i h => by simp at h⟩
  | a :: as, b :: bs, h => by
    obtain ⟨h1, h2⟩ := h
    obtain ⟨g1, g2⟩ := wkL_len h2
    refine ⟨by simp [g1], fun i a b => ?_⟩
    cases i with
    | zero => exact h1
    | succ i => exact g2 i (by simpa using a) (by simpa using b)
  | [], _ :: _, h => h.elim
  | _ :: _, [], h => h.elim
theorem wk1_weak {v w : AV} (h : wk1 v w) : Weak v w := by
  unfold wk1 at h
  split at h
  · obtain ⟨g1, g2⟩ := wkL_len h
    exact Weak.agg g1 fun i a b => wk0_weak (g2 i a b)
  · exact wk0_weak h
theorem wk_weak {v w : AV} (h : wk v w) : Weak v w := by
  unfold wk at h
  split at h
  · obtain ⟨g1, g2⟩ := wkL_len h
    exact Weak.tup g1 fun i a b => wk1_weak (g2 i a b)
  · exact wk1_weak h

/-- What a function that computes alone leaves. -/
def Gives (σ : List AObj) (v : AV) : AV → List AObj → Prop := fun v' σ' => (∃ junk, σ' = σ ++ junk) ∧ wk v' v
theorem post_app {σ l : List AObj} {v v' : AV} : Gives σ v v' (σ ++ l) = wk v' v := by
  unfold Gives; exact propext ⟨fun h => h.2, fun h => ⟨⟨_, rfl⟩, h⟩⟩
theorem post_nil {σ : List AObj} {v v' : AV} : Gives σ v v' σ = wk v' v := by
  unfold Gives; exact propext ⟨fun h => h.2, fun h => ⟨⟨[], by simp⟩, h⟩⟩
@[congr] theorem Gives_congr {σ : List AObj} {v a a' : AV} {s s' : List AObj} (h1 : a = a') (h2 : s = s') : Gives σ v a s = Gives σ v a' s' := by rw [h1, h2]
@[congr] theorem wk_congr {a a' b : AV} (h1 : a = a') : wk a b = wk a' b := by rw [h1]
theorem wk_tup {cs ds : List AV} : wk (.tup cs) (.tup ds) = wkL wk1 cs ds := rfl
theorem wk_agg {cs ds : List AV} : wk (.agg cs) (.agg ds) = wkL wk0 cs ds := rfl
theorem wk_int {k k' : IntKind} {i j : Int} : wk (.int k i) (.int k' j) = (AV.int k i = .int k' j) := rfl
theorem wk_bool {i j : Bool} : wk (.bool i) (.bool j) = (AV.bool i = .bool j) := rfl
theorem wk_str {i j : ByteArray} : wk (.str i) (.str j) = (AV.str i = .str j) := rfl
theorem wk_iface {t t' : TypeId} {i j : AV} : wk (.iface t i) (.iface t' j) = (AV.iface t i = .iface t' j) := rfl
theorem wk_list {t t' : Tok} {sz sz' : Nat} {xs ys : List AV} : wk (.list t sz xs) (.list t' sz' ys) = (xs = ys ∧ (sz = sz' ∨ ys = []) ∧ (t' = .no ∨ t = t')) := rfl
theorem wk1_agg {cs ds : List AV} : wk1 (.agg cs) (.agg ds) = wkL wk0 cs ds := rfl
theorem wk1_int {k k' : IntKind} {i j : Int} : wk1 (.int k i) (.int k' j) = (AV.int k i = .int k' j) := rfl
theorem wk1_bool {i j : Bool} : wk1 (.bool i) (.bool j) = (AV.bool i = .bool j) := rfl
theorem wk1_str {i j : ByteArray} : wk1 (.str i) (.str j) = (AV.str i = .str j) := rfl
theorem wk1_list {t t' : Tok} {sz sz' : Nat} {xs ys : List AV} : wk1 (.list t sz xs) (.list t' sz' ys) = (xs = ys ∧ (sz = sz' ∨ ys = []) ∧ (t' = .no ∨ t = t')) := rfl
theorem wk0_int {k k' : IntKind} {i j : Int} : wk0 (.int k i) (.int k' j) = (AV.int k i = .int k' j) := rfl
theorem wk0_bool {i j : Bool} : wk0 (.bool i) (.bool j) = (AV.bool i = .bool j) := rfl
theorem wk0_str {i j : ByteArray} : wk0 (.str i) (.str j) = (AV.str i = .str j) := rfl
theorem wk0_list {t t' : Tok} {sz sz' : Nat} {xs ys : List AV} : wk0 (.list t sz xs) (.list t' sz' ys) = (xs = ys ∧ (sz = sz' ∨ ys = []) ∧ (t' = .no ∨ t = t')) := rfl
theorem wkL_nil {f : AV → AV → Prop} : wkL f [] [] = True := rfl
theorem wkL_cons {f : AV → AV → Prop} {a b : AV} {as bs : List AV} : wkL f (a :: as) (b :: bs) = (f a b ∧ wkL f as bs) := rfl
theorem PureV.of_ev {E : Env} (hE : EnvOK E) {f : FuncId} {fn : Func} {c : Code} {args : List AV} {v : AV} (hp : Plain v) (kp : Nat → Bool) (hf : E.P.funcs[f]? = some fn) (hb : fn.body = some c) (hN : fn.ntmps = E.N) (hA : args.length ≤ E.N)
    (hC : Callable E.P f) (hO : todoOK E [.code c] = true)
    (h : ∀ σ, ev E none 100000 [.code c] ⟨kp, [], number 0 args⟩ σ (retPost E fn.results.toList (Gives σ v))) : PureV E.P f args v := by
  intro σ Q hq
  refine ACalls.clean ((ACalls.of_ev hE kp hf hb hN hA hC hO (h σ)).mono fun v' σ' ⟨⟨junk, h1⟩, h2⟩ => ⟨v, junk, h1, wk_weak h2, hp _, hq⟩)

/-- A call that returns a value of a kind, and leaves the objects as they were. -/
theorem ACalls.clean_ev {E : Env} (hE : EnvOK E) {f : FuncId} {fn : Func} {c : Code} {args : List AV} {σ : List AObj} {v : AV} (hp : Lt σ.length v) {Q : AV → List AObj → Prop} (hq : Q v σ) (kp : Nat → Bool) (hf : E.P.funcs[f]? = some fn) (hb : fn.body = some c) (hN : fn.ntmps = E.N) (hA : args.length ≤ E.N)
    (hC : Callable E.P f) (hO : todoOK E [.code c] = true)
    (h : ev E none 100000 [.code c] ⟨kp, [], number 0 args⟩ σ (retPost E fn.results.toList (Gives σ v))) : ACalls E.P f args σ Q :=
  ACalls.clean ((ACalls.of_ev hE kp hf hb hN hA hC hO h).mono fun v' σ' ⟨⟨junk, h1⟩, h2⟩ => ⟨v, junk, h1, wk_weak h2, hp, hq⟩)

section
variable {σ : List AObj} {X : AV → List AObj → Prop}
theorem callO_give {P : Program} {g : FuncId} {as : List AV} {v : AV} : callO P g as σ X (some v) = giveB X σ (some v) := by rw [giveB_eq]; rfl
theorem giveB_agg {cs : List AV} : giveB X σ (some (.agg cs)) = X (.agg cs) σ := rfl
theorem giveB_tup {cs : List AV} : giveB X σ (some (.tup cs)) = X (.tup cs) σ := rfl
theorem giveB_list {t : Tok} {sz : Nat} {cs : List AV} : giveB X σ (some (.list t sz cs)) = X (.list t sz cs) σ := rfl
theorem giveB_iface {t : TypeId} {v : AV} : giveB X σ (some (.iface t v)) = X (.iface t v) σ := rfl
theorem giveB_fn {f : Fn} {p q : List AV} : giveB X σ (some (.fn f p q)) = X (.fn f p q) σ := rfl
end

/-- Ways part. -/
def evIf (E : Env) (ro : Option Nat) (n : Nat) (k : List Item) (Q : Post) (fr : Fr) (σ : List AObj) (x y : Code) (c : Option AV) : Prop := match c with
  | some (.bool t) => (t = true → ev E ro n (.code x :: k) fr σ Q) ∧ (t = false → ev E ro n (.code y :: k) fr σ Q)
  | _ => False
section
variable {E : Env} {ro : Option Nat} {n : Nat} {k : List Item} {Q : Post} {fr : Fr} {σ : List AObj} {x y : Code}
theorem evIf_true : evIf E ro n k Q fr σ x y (some (.bool true)) = ev E ro n (.code x :: k) fr σ Q := by simp [evIf]
theorem evIf_false : evIf E ro n k Q fr σ x y (some (.bool false)) = ev E ro n (.code y :: k) fr σ Q := by simp [evIf]
theorem evIf_decide {p : Prop} [Decidable p] : evIf E ro n k Q fr σ x y (some (.bool (decide p))) = ((p → ev E ro n (.code x :: k) fr σ Q) ∧ (¬ p → ev E ro n (.code y :: k) fr σ Q)) := by simp [evIf]
theorem evIf_not {b : Bool} : evIf E ro n k Q fr σ x y (some (.bool (!b))) = evIf E ro n k Q fr σ y x (some (.bool b)) := by cases b <;> simp [evIf]
theorem evIf_var {b : Bool} : evIf E ro n k Q fr σ x y (some (.bool b)) = ((b = true → ev E ro n (.code x :: k) fr σ Q) ∧ (b = false → ev E ro n (.code y :: k) fr σ Q)) := rfl
theorem ev_condI {c : Operand} : ev E ro (n + 1) (.code (.cond c x y) :: k) fr σ Q = evIf E ro n k Q fr σ x y (aeval fr c) := by
  rw [ev_cond]; unfold evIf; rfl
end
section
variable {E : Env} {ro : Option Nat} {σ : List AObj} {X : AV → List AObj → Prop}
def exO (A : Prop) (f : List Item → Prop) : Option (List Item) → Prop
  | some k => f k
  | none => A
@[congr] theorem exO_congr {A : Prop} {f : List Item → Prop} {v v' : Option (List Item)} (h : v = v') : exO A f v = exO A f v' := by rw [h]
theorem exO_some {A : Prop} {f : List Item → Prop} {k : List Item} : exO A f (some k) = f k := rfl
theorem exO_none {A : Prop} {f : List Item → Prop} : exO A f none = A := rfl
theorem ev_exitI {n : Nat} {k : List Item} {fr : Fr} {Q : Post} {id : Nat} : ev E ro (n + 1) (.code (.exit id) :: k) fr σ Q = exO (Q (some (.exit id)) fr σ) (fun k' => ev E ro n k' fr σ Q) (exitTo id k) := by
  rw [ev_exit]; cases exitTo id k <;> rfl
theorem ev_rangeI {n : Nat} {k : List Item} {fr : Fr} {Q : Post} {f : Operand} {p : Array Tmp} {x y : Code} : ev E ro (n + 1) (.code (.rangeFunc f p x y) :: k) fr σ Q = ARun E ro (.code (.rangeFunc f p x y) :: k) fr.anew σ Q := rfl
theorem ev_beginI {n : Nat} {k : List Item} {fr : Fr} {Q : Post} : ev E ro (n + 1) (.beginRound :: k) fr σ Q = ARun E ro (.beginRound :: k) fr.anew σ Q := rfl
def giveC (X : AV → List AObj → Prop) (σ : List AObj) (b : Bool) : Prop := (b = true → X (.bool true) σ) ∧ (b = false → X (.bool false) σ)
@[congr] theorem giveC_congr {b b' : Bool} (h : b = b') : giveC X σ b = giveC X σ b' := by rw [h]
theorem giveB_giveC {b : Bool} : giveB X σ (some (.bool b)) = giveC X σ b := rfl
theorem giveC_true : giveC X σ true = X (.bool true) σ := by simp [giveC]
theorem giveC_false : giveC X σ false = X (.bool false) σ := by simp [giveC]
theorem giveC_decide {p : Prop} [Decidable p] : giveC X σ (decide p) = ((p → X (.bool true) σ) ∧ (¬ p → X (.bool false) σ)) := by simp [giveC]
theorem giveC_beq {a b : Int} : giveC X σ (a == b) = giveC X σ (decide (a = b)) := by
  have : (a == b) = decide (a = b) := by rw [Bool.eq_iff_iff]; simp
  rw [this]
theorem giveC_bne {a b : Int} : giveC X σ (a != b) = giveC X σ (!decide (a = b)) := by
  have : (a != b) = !decide (a = b) := by rw [Bool.eq_iff_iff]; simp
  rw [this]
theorem giveC_ndecide {p : Prop} [Decidable p] : giveC X σ (!decide p) = ((¬ p → X (.bool true) σ) ∧ (p → X (.bool false) σ)) := by simp [giveC]
theorem giveC_list {α : Type} [BEq α] [LawfulBEq α] {a b : List α} : giveC X σ (a == b) = ((a = b → X (.bool true) σ) ∧ (¬ a = b → X (.bool false) σ)) := by
  unfold giveC
  have h2 : ((a == b) = false) = ¬ a = b := by rw [← Bool.not_eq_true, beq_iff_eq]
  rw [h2]; simp
theorem giveC_listn {α : Type} [BEq α] [LawfulBEq α] {a b : List α} : giveC X σ (a != b) = ((¬ a = b → X (.bool true) σ) ∧ (a = b → X (.bool false) σ)) := by
  unfold giveC; simp
theorem giveC_and {b c : Bool} : giveC X σ (b && c) = ((b = true → giveC X σ c) ∧ (b = false → X (.bool false) σ)) := by cases b <;> cases c <;> simp [giveC]
def guardA (E : Env) (all os : List Oper) (dst : Option Tmp) (fr : Fr) (Q : Fr → List AObj → Prop) (σ : List AObj) (type : TypeId) (op : Op) (want : Bool) (v : Option AV) : Prop := match v with
  | some (.bool b) => (b = want → evOp E fr σ type op (evNext E all os dst fr Q)) ∧ (b = !want → evNext E all os dst fr Q (.tup []) σ)
  | some (.tup []) => evNext E all os dst fr Q (.tup []) σ
  | _ => False
def guardB (E : Env) (all : List Oper) (rs : List Nat) (L : List (Nat × List Nat)) (dst : Option Tmp) (fr : Fr) (Q : Fr → List AObj → Prop) (σ : List AObj) (type : TypeId) (op : Op) (want : Bool) (v : Option AV) : Prop := match v with
  | some (.bool b) => (b = want → evOp E fr σ type op (evNextD E all rs L dst fr Q)) ∧ (b = !want → evNextD E all rs L dst fr Q (.tup []) σ)
  | some (.tup []) => evNextD E all rs L dst fr Q (.tup []) σ
  | _ => False
def getO (fr : Fr) : Option Tmp → Option AV
  | some d => fr.get d
  | none => none
theorem getO_some {fr : Fr} {d : Tmp} : getO fr (some d) = fr.get d := rfl
section
variable {all os : List Oper} {dst : Option Tmp} {fr : Fr} {Q : Fr → List AObj → Prop} {type : TypeId} {op : Op} {rs : List Nat} {L : List (Nat × List Nat)} {want : Bool}
theorem guardA_tt : guardA E all os dst fr Q σ type op true (some (.bool true)) = evOp E fr σ type op (evNext E all os dst fr Q) := by simp [guardA]
theorem guardA_ff : guardA E all os dst fr Q σ type op false (some (.bool false)) = evOp E fr σ type op (evNext E all os dst fr Q) := by simp [guardA]
theorem guardA_tf : guardA E all os dst fr Q σ type op false (some (.bool true)) = evNext E all os dst fr Q (.tup []) σ := by simp [guardA]
theorem guardA_ft : guardA E all os dst fr Q σ type op true (some (.bool false)) = evNext E all os dst fr Q (.tup []) σ := by simp [guardA]
theorem guardA_tup : guardA E all os dst fr Q σ type op want (some (.tup [])) = evNext E all os dst fr Q (.tup []) σ := by simp [guardA]
theorem guardB_tt : guardB E all rs L dst fr Q σ type op true (some (.bool true)) = evOp E fr σ type op (evNextD E all rs L dst fr Q) := by simp [guardB]
theorem guardB_ff : guardB E all rs L dst fr Q σ type op false (some (.bool false)) = evOp E fr σ type op (evNextD E all rs L dst fr Q) := by simp [guardB]
theorem guardB_tf : guardB E all rs L dst fr Q σ type op false (some (.bool true)) = evNextD E all rs L dst fr Q (.tup []) σ := by simp [guardB]
theorem guardB_ft : guardB E all rs L dst fr Q σ type op true (some (.bool false)) = evNextD E all rs L dst fr Q (.tup []) σ := by simp [guardB]
theorem guardB_tup : guardB E all rs L dst fr Q σ type op want (some (.tup [])) = evNextD E all rs L dst fr Q (.tup []) σ := by simp [guardB]
theorem evOps_guardA {pos : String} {after : Array Edge} {j : Nat} : evOps E all (⟨dst, op, type, pos, after, some (j, want)⟩ :: os) fr σ Q = guardA E all os dst fr Q σ type op want (getO fr (dstOf all j)) := by
  rw [evOps_guard]
  cases dstOf all j with
  | none => rfl
  | some d => rfl
theorem evDo_guardA {pos : String} {after : Array Edge} {j : Nat} : evDo E all rs L fr σ Q (some ⟨dst, op, type, pos, after, some (j, want)⟩) = guardB E all rs L dst fr Q σ type op want (getO fr (dstOf all j)) := by
  rw [evDo_guard]
  cases dstOf all j with
  | none => rfl
  | some d => rfl
/-- A call, told by what is called. -/
def callF (E : Env) (σ : List AObj) (X : AV → List AObj → Prop) (f : Option AV) (as : Option (List AV)) : Prop := match f, as with
  | some (.fn (.func g) p q), some as => callA E g (p ++ as ++ q) σ X
  | some (.yield r), some as => AYield E.P r as σ X
  | _, _ => False
theorem evOp_callF {f : Operand} {args : Array Operand} {ats : Array TypeId} : evOp E fr σ type (.call ⟨.value f, args, ats⟩) X = callF E σ X (aeval fr f) (aevals fr args.toList) := rfl
theorem callF_fn {g : FuncId} {p q as : List AV} : callF E σ X (some (.fn (.func g) p q)) (some as) = callA E g (p ++ as ++ q) σ X := rfl
theorem callF_yield {r : Nat} {as : List AV} : callF E σ X (some (.yield r)) (some as) = AYield E.P r as σ X := rfl
def callM (E : Env) (σ : List AObj) (X : AV → List AObj → Prop) (v : AV) (as : List AV) : Option FuncId → Prop
  | some g => callA E g (v :: as) σ X
  | none => False
theorem callM_some {v : AV} {as : List AV} {g : FuncId} : callM E σ X v as (some g) = callA E g (v :: as) σ X := rfl
def callI (E : Env) (σ : List AObj) (X : AV → List AObj → Prop) (m : String) (f : Option AV) (as : Option (List AV)) : Prop := match f, as with
  | some (.iface t v), some as => callM E σ X v as (E.mt t m)
  | _, _ => False
theorem evOp_invokeI {r : Operand} {m : String} {args : Array Operand} {ats : Array TypeId} : evOp E fr σ type (.call ⟨.invoke r m, args, ats⟩) X = callI E σ X m (aeval fr r) (aevals fr args.toList) := by
  rw [evOp_invoke]
  cases aeval fr r with
  | none => rfl
  | some v =>
    cases aevals fr args.toList with
    | none => cases v <;> rfl
    | some l =>
      cases v with
      | iface t u => simp only [callI]; cases E.mt t m <;> rfl
      | _ => rfl
theorem callI_some {m : String} {t : TypeId} {v : AV} {as : List AV} : callI E σ X m (some (.iface t v)) (some as) = callM E σ X v as (E.mt t m) := rfl
end
end

/-- Slots anew. -/
def upd (sl : List (Nat × AV)) : List (Nat × AV) → List (Nat × AV)
  | [] => sl
  | p :: l => upd (ins sl p.1 p.2) l

/-- A loop that counts: lv is what the slots are at the head of round i, S what the objects are, P what is known. -/
theorem ARun.forS {E : Env} (hE : EnvOK E) {ro : Option Nat} {c : Code} {k : List Item} {kp : Nat → Bool} {tm sl : List (Nat × AV)} {σ : List AObj} {Q : Post} (n : Nat) (P : Nat → Prop) (lv : Nat → List (Nat × AV)) (S : Nat → List AObj → List AObj) (j0 : List AObj)
    (hO : todoOK E (.code c :: .inLoop c :: k) = true) (hσ : S 0 j0 = σ) (h0 : subF (upd sl (lv 0)) sl) (hP : P 0)
    (hs : ∀ i j, i < n → P i → (P (i + 1) → ∀ j', ARun E ro (.inLoop c :: k) ⟨kp, [], upd sl (lv (i + 1))⟩ (S (i + 1) j') Q) → ev E ro 100000 (.code c :: .inLoop c :: k) ⟨kp, [], upd sl (lv i)⟩ (S i j) Q)
    (he : ∀ j, P n → ev E ro 100000 (.code c :: .inLoop c :: k) ⟨kp, [], upd sl (lv n)⟩ (S n j) Q) : ARun E ro (.code (.loop c) :: k) ⟨kp, tm, sl⟩ σ Q := by
  have key : ∀ d i j, i + d = n → P i → ARun E ro (.code c :: .inLoop c :: k) ⟨kp, [], upd sl (lv i)⟩ (S i j) Q := by
    intro d
    induction d with
    | zero => intro i j hi hp; have : i = n := by omega
              subst this; exact ev_sound hE hO (he j hp)
    | succ d ih => intro i j hi hp; exact ev_sound hE hO (hs i j (by omega) hp fun hp' j' => .inLoop (ih (i + 1) j' (by omega) hp'))
  subst hσ
  exact .loop (ARun.sub (key n 0 j0 (by omega) hP) h0)

/-- A loop that counts, whose objects are told by a law. -/
theorem ARun.forJ {E : Env} (hE : EnvOK E) {ro : Option Nat} {c : Code} {k : List Item} {kp : Nat → Bool} {tm sl : List (Nat × AV)} {σ : List AObj} {Q : Post} (n : Nat) (J : Nat → List AObj → Prop) (lv : Nat → List (Nat × AV))
    (hO : todoOK E (.code c :: .inLoop c :: k) = true) (h0 : subF (upd sl (lv 0)) sl) (hJ : J 0 σ)
    (hs : ∀ i τ, i < n → J i τ → (∀ τ', J (i + 1) τ' → ARun E ro (.inLoop c :: k) ⟨kp, [], upd sl (lv (i + 1))⟩ τ' Q) → ev E ro 100000 (.code c :: .inLoop c :: k) ⟨kp, [], upd sl (lv i)⟩ τ Q)
    (he : ∀ τ, J n τ → ev E ro 100000 (.code c :: .inLoop c :: k) ⟨kp, [], upd sl (lv n)⟩ τ Q) : ARun E ro (.code (.loop c) :: k) ⟨kp, tm, sl⟩ σ Q := by
  have key : ∀ d i τ, i + d = n → J i τ → ARun E ro (.code c :: .inLoop c :: k) ⟨kp, [], upd sl (lv i)⟩ τ Q := by
    intro d
    induction d with
    | zero => intro i τ hi hp; have : i = n := by omega
              subst this; exact ev_sound hE hO (he τ hp)
    | succ d ih => intro i τ hi hp; exact ev_sound hE hO (hs i τ (by omega) hp fun τ' hp' => .inLoop (ih (i + 1) τ' (by omega) hp'))
  exact .loop (ARun.sub (key n 0 σ (by omega) hJ) h0)

theorem ARun.castS {E : Env} {ro : Option Nat} {todo : List Item} {kp : Nat → Bool} {tm sl sl' : List (Nat × AV)} {σ σ' : List AObj} {Q : Post} (h : ARun E ro todo ⟨kp, [], sl'⟩ σ' Q) (hσ : σ' = σ) (hs : subF sl' sl) : ARun E ro todo ⟨kp, tm, sl⟩ σ Q := by
  subst hσ; exact h.sub hs

theorem getElem?_at {α : Type} {l m : List α} : (l ++ m)[l.length]? = m[0]? := by rw [List.getElem?_append_right (by omega)]; simp
theorem getElem?_at' {α : Type} {l m : List α} {k : Nat} : (l ++ m)[l.length + k]? = m[k]? := by rw [List.getElem?_append_right (by omega)]; simp
theorem set_at {α : Type} {l m : List α} {x : α} : (l ++ m).set l.length x = l ++ m.set 0 x := by rw [List.set_append_right _ _ (by omega)]; simp
theorem set_at' {α : Type} {l m : List α} {k : Nat} {x : α} : (l ++ m).set (l.length + k) x = l ++ m.set k x := by rw [List.set_append_right _ _ (by omega)]; simp
theorem foldl_take {α β : Type} (f : β → α → β) (b : β) (l : List α) (i : Nat) (h : i < l.length) : (l.take (i + 1)).foldl f b = f ((l.take i).foldl f b) l[i] := by
  rw [List.take_succ_eq_append_getElem h, List.foldl_append]; rfl
theorem foldl_all {α β : Type} (f : β → α → β) (b : β) (l : List α) : (l.take l.length).foldl f b = l.foldl f b := by rw [List.take_length]
theorem wrap64 {n : Int} (h1 : -9223372036854775808 ≤ n) (h2 : n < 9223372036854775808) : IntKind.i64.wrap n = n := by
  rw [IntKind.wrap_i64]; omega
theorem wrapS {i : Nat} (h : i < 9223372036854775807) : IntKind.i64.wrap ((i : Int) + 1) = ((i + 1 : Nat) : Int) := by rw [wrap64 (by omega) (by omega)]; rfl
end Go.Mu
