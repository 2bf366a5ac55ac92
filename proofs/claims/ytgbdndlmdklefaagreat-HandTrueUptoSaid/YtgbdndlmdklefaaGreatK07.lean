/- Part M of the abstract layer: statements, operation by operation. -/
import Derived.Test.YtgbdndlmdklefaaGreatK05
import Derived.Test.YtgbdndlmdklefaaGreatK06
import Derived.Laws.Cover3
set_option linter.unusedSimpArgs false
set_option linter.unusedVariables false
namespace Go.Mu
open Go Go.Conc
def AYield {P : Program} (S : MC P) (r : Nat) (args : List AV) (σ : List AObj) (Q : AV → List AObj → Prop) : Prop :=
 ∀ (K : Kr) (w : World) (cargs : Array Value), R K σ w → VRs K σ.length args cargs.toList →
  ∃ fn tmps assign body, (Instr.yield (K.φ r) cargs).run P w = .ok (.round (K.φ r) fn tmps assign body) w ∧
   ∀ M, S M → ∀ V, OwnV M.Sh V K σ w → ∀ c cs, M.J (G (Frame.round (K.φ r) fn tmps assign body .normal) (c :: cs)) w V fun g' w' V' => ∃ v c' σ' K', g' = G (c.finish c') cs ∧ Q v σ' ∧ VR K' σ'.length v c' ∧ R K' σ' w' ∧ OwnV M.Sh V' K' σ' w' ∧ StepV V K σ w V' K' σ' w'
def aop (E : Env) (fr : Fr) (σ : List AObj) (type : TypeId) (op : Op) : Option (AV × List AObj) :=
 match pop E.ty fr type op with
 | some v => some (v, σ)
 | none => match litOp E.ty fr op with
  | some v => some (v, σ)
  | none => hop E.ty fr σ op
def callA (E : Env) (g : FuncId) (as : List AV) (σ : List AObj) (K : AV → List AObj → Prop) : Prop :=
 match E.fs g as with
 | some v => K v σ
 | none => ACalls E.S g as σ K
theorem callA_sound {E : Env} (hE : EnvOK E) {g : FuncId} {as : List AV} {σ : List AObj} {K : AV → List AObj → Prop} (h : callA E g as σ K) : ACalls E.S g as σ K := by
 unfold callA at h
 split at h
 ·rename_i v hv; exact hE.fs _ _ _ hv _ _ h
 ·exact h
theorem callA_mono {E : Env} {g : FuncId} {as : List AV} {σ : List AObj} {X Y : AV → List AObj → Prop} (hn : ∀ v σ, X v σ → Y v σ) (h : callA E g as σ X) : callA E g as σ Y := by
 unfold callA at h ⊢
 split at h
 ·exact hn _ _ h
 ·exact h.mono hn
theorem nextA_mono {σ : List AObj} {v : Option AV} {X Y : AV → List AObj → Prop} (hn : ∀ v σ, X v σ → Y v σ) (h : nextA X σ v) : nextA Y σ v := by
 unfold nextA at h ⊢
 split at h
 ·split at h
  ·split at h
   ·exact ⟨h.1, fun i k v g1 g2 => hn _ _ (h.2.1 i k v g1 g2), fun g => hn _ _ (h.2.2 g)⟩
   ·exact h
  ·exact h
 ·exact h
def isNilC : Operand → Bool
 | .const (.slice none 0 0) => true
 | _ => false
theorem isNilC_inv {y : Operand} (h : isNilC y = true) : y = .const (.slice none 0 0) := by
 unfold isNilC at h; split at h
 ·rfl
 ·cases h
def nilA (X : AV → List AObj → Prop) (σ : List AObj) : BinOp → TK → Option AV → Prop
 | .eql, .slice _, some (.list _ _ xs) => X (.bool false) σ ∧ (xs = [] → X (.bool true) σ)
 | .neq, .slice _, some (.list _ _ xs) => X (.bool true) σ ∧ (xs = [] → X (.bool false) σ)
 | .eql, .slice _, some (.vec _ l) => X (.bool false) σ ∧ (l = 0 → X (.bool true) σ)
 | .neq, .slice _, some (.vec _ l) => X (.bool true) σ ∧ (l = 0 → X (.bool false) σ)
 | _, _, _ => False
theorem nilA_inv {X : AV → List AObj → Prop} {σ : List AObj} {bo : BinOp} {kd : TK} {v : Option AV} (h : nilA X σ bo kd v) :
  ∃ e u Z, kd = .slice e ∧ v = some u ∧ (∀ K n c, VR K n u c → ∃ a len cap, c = .slice a len cap ∧ (a.isNone = true → Z)) ∧ (bo = .eql ∧ X (.bool false) σ ∧ (Z → X (.bool true) σ) ∨ bo = .neq ∧ X (.bool true) σ ∧ (Z → X (.bool false) σ)) := by
 have hl : ∀ tk sz (xs : List AV) K n c, VR K n (.list tk sz xs) c → ∃ a len cap, c = .slice a len cap ∧ (a.isNone = true → xs = []) := fun tk sz xs K n c h => by
  cases h with
  | list _ _ _ q cap f hl ht ha hs h1' hh =>
   refine ⟨q, _, cap, rfl, fun hn => ?_⟩
   apply Classical.byContradiction
   intro hne
   obtain ⟨b, o, rfl, _⟩ := ha hne
   cases hn
 have hv : ∀ r l K n c, VR K n (.vec r l) c → ∃ a len cap, c = .slice a len cap ∧ (a.isNone = true → l = 0) := fun r l K n c h => by
  cases h with
  | vec _ _ a cap hr hl ht ha =>
   refine ⟨a, _, cap, rfl, fun hn => ?_⟩
   rcases ha with h | ⟨b, o, rfl⟩
   ·exact h
   ·cases hn
 unfold nilA at h
 split at h
 ·exact ⟨_, _, _, rfl, rfl, hl _ _ _, .inl ⟨rfl, h⟩⟩
 ·exact ⟨_, _, _, rfl, rfl, hl _ _ _, .inr ⟨rfl, h⟩⟩
 ·exact ⟨_, _, _, rfl, rfl, hv _ _, .inl ⟨rfl, h⟩⟩
 ·exact ⟨_, _, _, rfl, rfl, hv _ _, .inr ⟨rfl, h⟩⟩
 ·exact h.elim
theorem nilA_mono {X Y : AV → List AObj → Prop} {σ : List AObj} {bo : BinOp} {kd : TK} {v : Option AV} (hn : ∀ v σ, X v σ → Y v σ) (h : nilA X σ bo kd v) : nilA Y σ bo kd v := by
 unfold nilA at h ⊢
 split at h
 ·exact ⟨hn _ _ h.1, fun e => hn _ _ (h.2 e)⟩
 ·exact ⟨hn _ _ h.1, fun e => hn _ _ (h.2 e)⟩
 ·exact ⟨hn _ _ h.1, fun e => hn _ _ (h.2 e)⟩
 ·exact ⟨hn _ _ h.1, fun e => hn _ _ (h.2 e)⟩
 ·exact h.elim
def evOp (E : Env) (fr : Fr) (σ : List AObj) (type : TypeId) (op : Op) (K : AV → List AObj → Prop) : Prop :=
 match op with
 | .call { callee := .value f, args, .. } => match aeval fr f, aevals fr args.toList with
  | some (.fn (.func g) p q), some as => callA E g (p ++ as ++ q) σ K
  | some (.yield r), some as => AYield E.S r as σ K
  | _, _ => False
 | .call { callee := .invoke r m, args, .. } => match aeval fr r, aevals fr args.toList with
  | some (.iface t v), some as => match E.mt t m with
   | some g => callA E g (v :: as) σ K
   | none => False
  | _, _ => False
 | .next it b => if b = true then nextS K σ (aeval fr it) else nextA K σ (aeval fr it)
 | .binOp bo t x y u => match isNilC y with
  | true => nilA K σ bo (E.ty t).kd (aeval fr x)
  | false => match aop E fr σ type (.binOp bo t x y u) with
   | some (v, σ') => K v σ'
   | none => False
 | op => match aop E fr σ type op with
  | some (v, σ') => K v σ'
  | none => False
def evOps (E : Env) (all : List Oper) : List Oper → Fr → List AObj → (Fr → List AObj → Prop) → Prop
 | [], fr, σ, Q => Q fr σ
 | o :: os, fr, σ, Q =>
  let next : Option Tmp → AV → List AObj → Prop := fun dst v σ' => match dst with
   | none => evOps E all os fr σ' Q
   | some d => d < E.N ∧ evOps E all os (fr.put d v) σ' Q
  match wantA all fr o.guard with
  | none => False
  | some b => (b = true → evOp E fr σ o.type o.op (next o.dst)) ∧ (b = false → next o.dst (.tup []) σ)
variable {E : Env} {ro : Option Nat} {K : Kr} {n : Nat}
theorem undef_VR : VR K n (.tup []) undef := VRs.tup (cs := #[]) .nil
theorem VR.map_inv {r : Nat} {c : Value} (h : VR K n (.map r) c) : r < n ∧ c = .map (some (K.φ r)) := by
 cases h with | map _ h => exact ⟨h, rfl⟩
theorem aop_sound (hE : EnvOK E) {σ σ' : List AObj} {w : World} (hR : R K σ w) {fr : Fr} {a : Act} (hF : FR K σ.length E.N fr a.tmps) {o : Oper} {v : AV} (h : aop E fr σ o.type o.op = some (v, σ')) :
  ∃ c K' w', ((execOp a.eval o).run E.P w = .ok (.value c) w' ∨ ((execOp a.eval o).run E.P w = .ok .skip w' ∧ c = undef)) ∧ VR K' σ'.length v c ∧ R K' σ' w' ∧ Step K σ w K' σ' w' := by
 unfold aop at h
 split at h
 ·rename_i v' hp
  simp only [Option.some.injEq, Prod.mk.injEq] at h
  obtain ⟨rfl, rfl⟩ := h
  obtain ⟨c, h1, h2⟩ := pop_sound hE.ty hE.eq hF hp w
  exact ⟨c, K, w, .inl h1, h2, hR, .refl _ _ _⟩
 ·split at h
  ·rename_i v' hp
   simp only [Option.some.injEq, Prod.mk.injEq] at h
   obtain ⟨rfl, rfl⟩ := h
   obtain ⟨c, K', w', h1, h2, h3, h4⟩ := lit_sound hE.ty hR hF hp
   exact ⟨c, K', w', .inl h1, h2, h3, h4⟩
  ·obtain ⟨dst, op, type, pos, after, guard⟩ := o
   simp only at h
   cases op with
   | alloc t =>
    simp only [hop] at h
    split at h
    ·rename_i hk
     simp only [Option.some.injEq, Prod.mk.injEq] at h
     obtain ⟨rfl, rfl⟩ := h
     obtain ⟨c, K', w', h1, h2, h3, h4⟩ := alloc_sound hE.ty hR hk (.tuple #[])
     exact ⟨c, K', w', .inl (by simp only [execOp, Sem.run_bind, h1, Result.andThen_ok, Sem.run_pure]), by simpa using h2, h3, h4⟩
    ·cases h
   | box t x =>
    simp only [hop] at h
    split at h
    ·rename_i v' hv
     split at h
     ·rename_i hf
      simp only [Option.some.injEq, Prod.mk.injEq] at h
      obtain ⟨rfl, rfl⟩ := h
      obtain ⟨c, K', w', h1, h2, h3, h4⟩ := box_sound (P := E.P) (t := t) hR (aeval_sound hF hv) hf
      exact ⟨c, K', w', .inl (by simp only [execOp, Sem.run_bind, h1, Result.andThen_ok, Sem.run_pure]), by simpa using h2, h3, h4⟩
     ·cases h
    ·cases h
   | load t x =>
    simp only [hop] at h
    split at h
    ·rename_i r off hx
     split at h
     ·rename_i cs hg
      simp only [Option.map_eq_some_iff, Prod.mk.injEq] at h
      obtain ⟨v', hs, rfl, rfl⟩ := h
      obtain ⟨f, hc⟩ := cells_of_obj hR hg
      obtain ⟨c, h1, h2⟩ := load_sound (P := E.P) (w := w) hE.ty hc hs
      refine ⟨c, K, w, .inl ?_, h2, hR, .refl _ _ _⟩
      rw [Nat.zero_add] at h1
      simp only [execOp, Instr.loadAt, (aeval_sound hF hx).ptr_inv.2, Instr.sureAddr, Sem.run_bind, Sem.run_pure, Result.andThen_ok, h1]
     ·cases h
    ·rename_i cs off hx
     simp only [Option.map_eq_some_iff, Prod.mk.injEq] at h
     obtain ⟨v', hs, rfl, rfl⟩ := h
     obtain ⟨b, o, hq, f, hc⟩ := cells_of_eptr hR (aeval_sound hF hx)
     obtain ⟨c, h1, h2⟩ := load_sound (P := E.P) (w := w) hE.ty hc hs
     refine ⟨c, K, w, .inl ?_, h2, hR, .refl _ _ _⟩
     simp only [execOp, Instr.loadAt, hq, Instr.sureAddr, Sem.run_bind, Sem.run_pure, Result.andThen_ok, h1]
    ·rename_i r m sz i off hx
     split at h
     ·rename_i sz' xs hg
      split at h
      ·rename_i hc
       obtain ⟨rfl, rfl⟩ := hc
       unfold loadV at h
       split at h
       ·rename_i x hxi
        simp only [Option.map_eq_some_iff, Prod.mk.injEq] at h
        obtain ⟨v', hs, rfl, rfl⟩ := h
        obtain ⟨hi, rfl⟩ := List.getElem?_eq_some_iff.1 hxi
        obtain ⟨b, o, c, hq, h1, h2⟩ := vload_sound (P := E.P) hE.ty hR hg (aeval_sound hF hx) hi hs
        refine ⟨c, K, w, .inl ?_, h2, hR, .refl _ _ _⟩
        simp only [execOp, Instr.loadAt, hq, Instr.sureAddr, Sem.run_bind, Sem.run_pure, Result.andThen_ok, h1]
       ·cases h
      ·cases h
     ·cases h
    ·cases h
   | store t x y =>
    simp only [hop] at h
    split at h
    ·rename_i r off v' hx hy
     split at h
     ·rename_i cs hg
      split at h
      ·rename_i hc
       simp only [Option.some.injEq, Prod.mk.injEq] at h
       obtain ⟨rfl, rfl⟩ := h
       obtain ⟨w', h1, h2, h3⟩ := store_sound (P := E.P) hE.ty hR hc.1 hg (aeval_sound hF hy) hc.2.1 hc.2.2.1 hc.2.2.2
       refine ⟨undef, K, w', .inr ⟨?_, rfl⟩, undef_VR, h2, h3⟩
       simp only [execOp, (aeval_sound hF hx).ptr_inv.2, Sem.run_bind, h1, Result.andThen_ok, Sem.run_pure]
      ·cases h
     ·cases h
    ·rename_i r m sz i off v' hx hy
     split at h
     ·rename_i sz' xs hg
      split at h
      ·rename_i hc
       obtain ⟨rfl, rfl, c1, c2, c3, c4⟩ := hc
       unfold storeV at h
       split at h
       ·rename_i x hxi
        split at h
        ·rename_i hfx
         simp only [Option.some.injEq, Prod.mk.injEq] at h
         obtain ⟨rfl, rfl⟩ := h
         obtain ⟨hi, rfl⟩ := List.getElem?_eq_some_iff.1 hxi
         obtain ⟨w', h1, h2, h3⟩ := vstore_sound (P := E.P) hE.ty hR c1 hg (aeval_sound hF hx) hi hfx (aeval_sound hF hy) c2 c3 c4
         refine ⟨undef, K, w', .inr ⟨?_, rfl⟩, undef_VR, h2, h3⟩
         simp only [execOp, Sem.run_bind, h1, Result.andThen_ok, Sem.run_pure]
        ·cases h
       ·cases h
      ·cases h
     ·cases h
    ·cases h
   | call c =>
    obtain ⟨callee, args, ats⟩ := c
    cases callee with
    | builtin b =>
     cases b with
     | append =>
      simp only [hop] at h
      split at h
      ·rename_i t sz xs t' sz' ys t0 t1 hargs h0 h1
       split at h
       ·rename_i e e' hk0 hk1
        obtain ⟨c1, c2, hl, g1, g2⟩ := (aevals_sound hF hargs).two
        have happ : ∃ c K' w', (Builtin.append_ ats type #[c1, c2]).run E.P w = .ok c w' ∧ VR K' σ'.length v c ∧ R K' σ' w' ∧ Step K σ w K' σ' w' := by
         unfold appB at h
         split at h
         ·exact fapp_sound hE.ty hR h0 h1 hk0 hk1 g1 g2 h type
         ·exact app_sound hE.ty hR h0 h1 hk0 hk1 g1 g2 h type
        obtain ⟨c, K', w', k1, k2, k3, k4⟩ := happ
        refine ⟨c, K', w', .inl ?_, k2, k3, k4⟩
        have hl' : args.map a.eval = #[c1, c2] := by apply Array.ext'; simpa using hl
        simp only [execOp, resolve, hl', Sem.run_bind, Sem.run_pure, Result.andThen_ok, invoke, builtin, k1]
       ·cases h
      ·rename_i r len t' sz' ys t0 t1 hargs h0 h1
       split at h
       ·rename_i e e' hk0 hk1
        obtain ⟨c1, c2, hl, g1, g2⟩ := (aevals_sound hF hargs).two
        obtain ⟨c, K', w', k1, k2, k3, k4⟩ := vapp_sound hE.ty hR h0 h1 hk0 hk1 g1 g2 h type
        refine ⟨c, K', w', .inl ?_, k2, k3, k4⟩
        have hl' : args.map a.eval = #[c1, c2] := by apply Array.ext'; simpa using hl
        simp only [execOp, resolve, hl', Sem.run_bind, Sem.run_pure, Result.andThen_ok, invoke, builtin, k1]
       ·cases h
      ·cases h
     | copy =>
      simp only [hop] at h
      split at h
      ·rename_i r off len t sz xs t0 hargs h0
       split at h
       ·rename_i e cs hk0 hg
        split at h
        ·rename_i hc
         simp only [Option.some.injEq, Prod.mk.injEq] at h
         obtain ⟨rfl, rfl⟩ := h
         obtain ⟨c1, c2, hl, g1, g2⟩ := (aevals_sound hF hargs).two
         obtain ⟨w', k1, k2, k3⟩ := copy_sound (P := E.P) hE.ty hR h0 hk0 hc.1 hc.2.1 hc.2.2.1 hc.2.2.2.1 hg hc.2.2.2.2 g1 g2 type
         refine ⟨_, K, w', .inl ?_, .int _ _, k2, k3⟩
         have hl' : args.map a.eval = #[c1, c2] := by apply Array.ext'; simpa using hl
         simp only [execOp, resolve, hl', Sem.run_bind, Sem.run_pure, Result.andThen_ok, invoke, builtin, k1]
        ·cases h
       ·cases h
      ·cases h
     | _ => simp [hop] at h
    | _ => simp [hop] at h
   | makeSlice t l c =>
    simp only [hop] at h
    split at h
    ·rename_i e k l k' c' hk hl hc
     split at h
     ·rename_i hh
      obtain ⟨rfl, h0, h1, h2, h3, h4, h5⟩ := hh
      simp only [Option.some.injEq, Prod.mk.injEq] at h
      obtain ⟨rfl, rfl⟩ := h
      obtain ⟨c, K', w', k1, k2, k3, k4⟩ := makeSlice_sound (P := E.P) (k := k) (k' := k') hE.ty hR hk h0 h1 h2 h3 h4 h5
      refine ⟨c, K', w', .inl ?_, by simpa using k2, k3, k4⟩
      simp only [execOp, (aeval_sound hF hl).int_inv, (aeval_sound hF hc).int_inv, Sem.run_bind, k1, Result.andThen_ok, Sem.run_pure]
     ·cases h
    ·cases h
   | makeMap t m =>
    cases m with
    | some _ => simp [hop] at h
    | none =>
     simp only [hop] at h
     split at h
     ·simp only [Option.some.injEq, Prod.mk.injEq] at h
      obtain ⟨rfl, rfl⟩ := h
      obtain ⟨c, K', w', h1, h2, h3, h4⟩ := makeMap_sound (P := E.P) hR (t := t)
      exact ⟨c, K', w', .inl (by simp only [execOp, Option.map_none, Sem.run_bind, h1, Result.andThen_ok, Sem.run_pure]), by simpa using h2, h3, h4⟩
     ·cases h
   | lookup t m k ok =>
    simp only [hop] at h
    split at h
    ·rename_i kt et r key hk hm hkey
     split at h
     ·rename_i es hg
      split at h
      ·rename_i hc
       obtain ⟨c', h1, h2, rfl⟩ := lookup_sound hE.ty hE.eq hR hk hc.1 hc.2.1 hg (aeval_sound hF hkey) h
       refine ⟨c', K, w, .inl ?_, h2, hR, .refl _ _ _⟩
       simp only [execOp, (aeval_sound hF hm).map_inv.2, Sem.run_bind, h1, Result.andThen_ok, Sem.run_pure]
      ·cases h
     ·cases h
    ·cases h
   | mapUpdate t m k x =>
    simp only [hop] at h
    split at h
    ·rename_i kt et r key u hk hm hkey hu
     split at h
     ·rename_i es hg
      split at h
      ·rename_i hc
       obtain ⟨w', h1, rfl, h2, h3⟩ := update_sound hE.ty hE.eq hR hk hc hg (aeval_sound hF hkey) (aeval_sound hF hu) h
       refine ⟨undef, K, w', .inr ⟨?_, rfl⟩, undef_VR, h2, h3⟩
       simp only [execOp, (aeval_sound hF hm).map_inv.2, Sem.run_bind, h1, Result.andThen_ok, Sem.run_pure]
      ·cases h
     ·cases h
    ·cases h
   | entry it =>
    simp only [hop] at h
    split at h
    ·rename_i r hit
     obtain ⟨c, h1, h2, rfl⟩ := entry_sound (P := E.P) hR h
     refine ⟨c, K, w, .inl ?_, h2, hR, .refl _ _ _⟩
     simp only [execOp, (aeval_sound hF hit).ptr_inv.2, Sem.run_bind, h1, Result.andThen_ok, Sem.run_pure]
    ·cases h
   | range t m =>
    simp only [hop] at h
    split at h
    ·rename_i kt et r hk hm
     split at h
     ·rename_i es hg
      simp only [Option.some.injEq, Prod.mk.injEq] at h
      obtain ⟨rfl, rfl⟩ := h
      obtain ⟨c, K', w', h1, h2, h3, h4⟩ := range_sound hE.ty hR hk hg
      refine ⟨c, K', w', .inl ?_, by simpa using h2, h3, h4⟩
      simp only [execOp, (aeval_sound hF hm).map_inv.2, Sem.run_bind, h1, Result.andThen_ok, Sem.run_pure]
     ·cases h
    ·rename_i s hk hm
     simp only [Option.some.injEq, Prod.mk.injEq] at h
     obtain ⟨rfl, rfl⟩ := h
     obtain ⟨c, K', w', h1, h2, h3, h4⟩ := srange_sound hE.ty hR (s := s) hk
     refine ⟨c, K', w', .inl ?_, by simpa using h2, h3, h4⟩
     simp only [execOp, (aeval_sound hF hm).str_inv, Sem.run_bind, h1, Result.andThen_ok, Sem.run_pure]
    ·cases h
   | convert s d x =>
    simp only [hop, Option.map_eq_some_iff, Prod.mk.injEq] at h
    obtain ⟨u, h, rfl, rfl⟩ := h
    unfold cvO at h
    split at h
    ·rename_i e t sz xs hs hd hx
     split at h
     ·rename_i hc
      simp only [Option.map_eq_some_iff] at h
      obtain ⟨ns, hb, rfl⟩ := h
      refine ⟨_, K, w, .inl ?_, .str _, hR, .refl _ _ _⟩
      simp only [execOp, Sem.run_bind, cvt_sound hE.ty hR hs hd hc.1 hc.2 hb (aeval_sound hF hx), Result.andThen_ok, Sem.run_pure]
     ·cases h
    ·cases h
   | _ => simp [hop] at h
end Go.Mu
namespace Go.Mu
open Go Go.Conc
variable {E : Env} {K : Kr} {n : Nat} {P : Program}
theorem Tm_val {x : Sem Value} (h : Tm P x Any) : Tm P (do pure (.value (← x)) : Sem Next) Any := Tm_bind (Tm_mono h fun _ _ => trivial)
theorem Tm_unit {x : Sem Unit} (h : Tm P x Any) : Tm P (do x; pure .skip : Sem Next) Any := Tm_bind (Tm_mono h fun _ _ => trivial)
theorem Tm_eqGuardIn : ∀ (d : Nat) (t : TypeId) (x y : Value) {Φ : Bool → Prop}, (∀ b, Φ b) → Tm P (Op.eqGuardIn d t x y) Φ
 | 0, _, _, _, _, _ => trivial
 | d + 1, t, x, y, Φ, hΦ => by
  unfold Op.eqGuardIn
  refine Tm_bind (Tm_underlying fun u => ?_)
  split
  ·exact hΦ _
  ·refine Tm_bind (Tm_forInA (fun b => ?_) (fun f b => ?_) _ _)
   ·obtain ⟨_ | r, u⟩ := b <;> exact hΦ _
   ·exact Tm_ite (Tm_bind (Tm_part fun v => Tm_bind (Tm_part fun w => Tm_bind (Tm_eqGuardIn d _ _ _ fun b => Tm_ite trivial trivial)))) trivial
  ·refine Tm_bind (Tm_sizeOf fun n => Tm_bind (Tm_forInR (fun b => ?_) (fun f b => ?_) _ _))
   ·obtain ⟨_ | r, u⟩ := b <;> exact hΦ _
   ·exact Tm_bind (Tm_part fun v => Tm_bind (Tm_part fun w => Tm_bind (Tm_eqGuardIn d _ _ _ fun b => Tm_ite trivial trivial)))
  ·exact hΦ _
theorem Tm_eqGuard {op : BinOp} {t : TypeId} {x y : Operand} {a b : Value} {Φ : Unit → Prop} (h : Φ ()) : Tm P (eqGuard op t x y a b) Φ := by
 unfold eqGuard
 refine Tm_ite h ?_
 split
 ·refine Tm_ite h (Tm_bind (Tm_eqGuardIn _ _ _ _ fun b => Tm_ite trivial h))
 ·refine Tm_bind (Tm_program (Tm_bind (Tm_program ?_)))
  exact Tm_ite h (Tm_bind (Tm_eqGuardIn _ _ _ _ fun b => Tm_ite trivial h))
 ·exact h
theorem Tm_intBits {op : BinOp} {k : IntKind} {x y : Int} : Tm P (Op.intBits op k x y) Any := by cases op <;> trivial
theorem Tm_unary {op : UnOp} {x : Value} : Tm P (Op.unary op x) Any := by
 unfold Op.unary
 split <;> first
  | trivial
  | exact Tm_intArith
  | exact Tm_intBits
theorem Tm_binInt {op : BinOp} {t : TypeId} {k k' : IntKind} {a b : Int} : Tm P (binOp op t (.int k a) (.int k' b)) Any := by
 have key : Tm P (if k ≠ k' then stuck "BinOp: operands of different kinds" else
   match op with
   | .add | .sub | .mul => Op.intArith op k a b
   | .quo | .rem => Op.intDiv op k a b
   | .and | .or | .xor | .andNot => Op.intBits op k a b
   | _ => Op.intCmp op a b : Sem Value) Any := by
  refine Tm_ite trivial ?_
  split <;> first
   | exact Tm_intArith
   | (unfold Op.intDiv; refine Tm_ite Tm_runtimePanic ?_; split <;> trivial)
   | exact Tm_intBits
   | (unfold Op.intCmp; split <;> trivial)
 have sh : ∀ op, Tm P (Op.shift op k a k' b) Any := fun op => by
  unfold Op.shift; refine Tm_ite Tm_runtimePanic ?_; dsimp only; split <;> trivial
 cases op with
 | shl => exact sh .shl
 | shr => exact sh .shr
 | _ => exact key
theorem Tm_binStr {op : BinOp} {t : TypeId} {a b : ByteArray} : Tm P (binOp op t (.string a) (.string b)) Any := by
 have key : Tm P (Op.stringOp op a b) Any := by
  unfold Op.stringOp; dsimp only; split <;> first | trivial | exact Tm_ite trivial trivial
 cases op <;> exact key
theorem Tm_binFlat {op : BinOp} {t : TypeId} {a b : Value} (ha : Flat a) (hab : (∃ x y, a = .bool x ∧ b = .bool y) ∨ (∃ x y, a = .agg x ∧ b = .agg y)) : Tm P (binOp op t a b) Any := by
 rcases hab with ⟨x, y, rfl, rfl⟩ | ⟨x, y, rfl, rfl⟩ <;> cases op <;> first
  | trivial
  | exact Tm_bind (Tm_mono (Tm_equal ha) fun _ _ => trivial)
theorem Flat.ints (xs : List Int) : Flat (.agg (xs.map (.int .i64)).toArray) := .agg _ fun i hi => by
 simp; exact .int _ _
theorem flat_key {i : TI} {key : AV} {c : Value} (hk : keyOK i key = true) (hv : VR K n key c) : Flat c := by
 cases key with
 | int k a => rw [hv.int_inv]; exact .int _ _
 | str s => rw [hv.str_inv]; exact .str _
 | agg cs =>
  obtain ⟨_, _, xs, hx⟩ := keyOK_agg hk
  obtain ⟨cc, rfl, hcc, _⟩ := hv.agg_inv
  have := intsA_sound hx hcc
  have e : cc = (xs.map (.int .i64)).toArray := by rw [← this]
  rw [e]; exact Flat.ints xs
 | _ => simp [keyOK] at hk
theorem aop_tm (hE : EnvOK E) {σ σ' : List AObj} {fr : Fr} {a : Act} (hF : FR K n E.N fr a.tmps) {o : Oper} {v : AV} (h : aop E fr σ o.type o.op = some (v, σ')) : Tm E.P (execOp a.eval o) Any := by
 obtain ⟨dst, op, type, pos, after, guard⟩ := o
 simp only at h
 have hpop : ∀ {X : Prop}, (litOp E.ty fr op = none) → (hop E.ty fr σ op = none) → (∀ v', pop E.ty fr type op = some v' → X) → X := fun h1 h2 h3 => by
  unfold aop at h
  rw [h1, h2] at h
  cases hp : pop E.ty fr type op with
  | none => rw [hp] at h; cases h
  | some v' => exact h3 v' hp
 cases op with
 | move x => trivial
 | assign x => trivial
 | pick c x y => exact Tm_bind (Tm_asBool fun _ => trivial)
 | alloc t => exact Tm_val Tm_alloc
 | box t x => exact Tm_val Tm_box
 | build t ps => exact Tm_val Tm_build
 | buildSlice t l ps => exact Tm_val Tm_buildSlice
 | load t x => exact Tm_val Tm_loadAt
 | store t x y => exact Tm_unit Tm_storeAt
 | fieldAddr t x f =>
  refine hpop rfl rfl fun v' hp => Tm_val (Tm_fieldAt fun fs g hd hg => ?_)
  simp only [pop] at hp
  have key : ∀ (gs : List (Nat × TypeId)), (E.ty t).kd = .strct gs → (∃ p, gs[f]? = some p ∧ ¬ ((E.ty p.2).kd.agg = none ∨ (E.ty p.2).sz = 0)) → ∃ n w, (sizeOf g.type).run E.P w = .ok n w ∧ n ≠ 0 := by
   intro gs hk ⟨p, hp1, hp2⟩
   obtain ⟨d, k1, k2⟩ := (hE.ty t (by rw [hk]; simp)).kd
   rw [hk] at k2
   obtain ⟨fields, rfl, rfl⟩ := k2
   rw [hd] at k1
   simp only [Option.some.injEq, TypeDesc.struct.injEq] at k1
   subst k1
   rw [List.getElem?_map] at hp1
   obtain ⟨g', e1, e2⟩ := Option.map_eq_some_iff.1 hp1
   have : fs[f]? = some g' := by simpa using e1
   rw [hg] at this
   simp only [Option.some.injEq] at this
   subst this; subst e2
   exact ⟨_, default, run_size hE.ty (kd_of_agg' fun e => hp2 (.inl e)) _, fun e => hp2 (.inr e)⟩
  split at hp <;> first
   | (cases hp; done)
   | skip
  all_goals
   rename_i hk _
   split at hp
   ·rename_i p hp1
    split at hp
    ·cases hp
    ·rename_i hp2; exact key _ hk ⟨p, hp1, hp2⟩
   ·cases hp
 | field t x f => exact Tm_val Tm_field
 | index t x i => exact Tm_val Tm_index
 | indexAddr t x i => exact Tm_val Tm_indexAt
 | nilCheck x =>
  refine hpop rfl rfl fun v' hp => ?_
  simp only [pop] at hp
  have fin : ∀ c, a.eval x = c → ((∃ q, c = .pointer (some q)) ∨ ∃ f p q, c = .func (.func f) p q) → Tm E.P (execOp a.eval ⟨dst, .nilCheck x, type, pos, after, guard⟩) Any := fun c hc hq => by
   simp only [execOp, hc]
   rcases hq with ⟨q, rfl⟩ | ⟨f, p, q, rfl⟩ <;> trivial
  split at hp
  ·rename_i hx; exact fin _ (aeval_sound hF hx).ptr_inv.2 (.inl ⟨_, rfl⟩)
  ·rename_i hx
   have := aeval_sound hF hx
   generalize hc : a.eval x = c at this
   cases this with | eptr _ _ b o f h1 h2 h3 => exact fin _ hc (.inl ⟨_, rfl⟩)
  ·rename_i hx
   have := aeval_sound hF hx
   generalize hc : a.eval x = c at this
   cases this with | vptr _ _ _ _ _ b o cap h1 h2 => exact fin _ hc (.inl ⟨_, rfl⟩)
  ·rename_i hx
   have := aeval_sound hF hx
   generalize hc : a.eval x = c at this
   cases this with | fn _ _ _ p q h1 h2 h3 h4 => exact fin _ hc (.inr ⟨_, _, _, rfl⟩)
  ·cases hp
 | binOp bo t x y u =>
  refine hpop rfl rfl fun v' hp => Tm_val (Tm_bind (Tm_eqGuard ?_))
  simp only [pop] at hp
  split at hp
  ·rename_i hx hy
   rw [(aeval_sound hF hx).int_inv, (aeval_sound hF hy).int_inv]; exact Tm_binInt
  ·rename_i ca cb hx hy
   split at hp
   ·have ia : ∃ xs, intsA ca = some xs := by
     cases e : intsA ca with
     | none => rw [e] at hp; simp at hp
     | some xs => exact ⟨xs, rfl⟩
    obtain ⟨xs, hxs⟩ := ia
    obtain ⟨cc, h1, h2, _⟩ := (aeval_sound hF hx).agg_inv
    obtain ⟨cc', h1', _⟩ := (aeval_sound hF hy).agg_inv
    have e : cc = (xs.map (.int .i64)).toArray := by rw [← intsA_sound hxs h2]
    rw [h1, h1', e]
    exact Tm_binFlat (Flat.ints xs) (.inr ⟨_, _, rfl, rfl⟩)
   ·cases hp
  ·rename_i hx hy
   rw [(aeval_sound hF hx).bool_inv, (aeval_sound hF hy).bool_inv]
   exact Tm_binFlat (.bool _) (.inl ⟨_, _, rfl, rfl⟩)
  ·rename_i hx hy
   rw [(aeval_sound hF hx).str_inv, (aeval_sound hF hy).str_inv]; exact Tm_binStr
  ·cases hp
 | unOp op t x => exact Tm_val Tm_unary
 | convert s d x =>
  refine Tm_val ?_
  have und : ∀ {t : Nat} {d1 : TypeDesc}, (E.ty t).kd ≠ .other → E.P.underlying t = some d1 → KdOK d1 (E.ty t).kd := fun hk h1 => by
   obtain ⟨d2, k1, k2⟩ := (hE.ty _ hk).kd
   rw [h1] at k1; simp only [Option.some.injEq] at k1; subst k1; exact k2
  unfold aop at h
  cases hp : pop E.ty fr type (.convert s d x) with
  | some v' =>
   simp only [pop] at hp
   split at hp
   ·rename_i k1 k2 _ n hs hd hx
    rw [(aeval_sound hF hx).int_inv]
    unfold convert
    refine Tm_bind (Tm_underlyingP fun d1 h1 => Tm_bind (Tm_underlyingP fun d2 h2 => ?_))
    have h2' := und (by rw [hd]; simp) h2
    rw [hd] at h2'; simp only [KdOK] at h2'; subst h2'
    trivial
   ·cases hp
  | none =>
   rw [hp] at h
   simp only [litOp, hop, Option.map_eq_some_iff] at h
   obtain ⟨u, h, _⟩ := h
   unfold cvO at h
   split at h
   ·rename_i e t sz xs hs hd hx
    split at h
    ·rename_i hc
     have hv := aeval_sound hF hx
     generalize hcv : a.eval x = c at hv
     cases hv with
     | list _ _ _ q cap f g1 g2 g3 g4 g5 g6 =>
      unfold convert
      refine Tm_bind (Tm_underlyingP fun d1 h1 => Tm_bind (Tm_underlyingP fun d2 h2 => ?_))
      have h1' := und (by rw [hs]; simp) h1
      have h2' := und (by rw [hd]; simp) h2
      rw [hs] at h1'; rw [hd] at h2'; simp only [KdOK] at h1' h2'; subst h1'; subst h2'
      refine Tm_bind (Tm_underlyingP fun d3 h3 => ?_)
      have h3' := und (by rw [hc.1]; simp) h3
      rw [hc.1] at h3'; simp only [KdOK] at h3'; subst h3'
      exact Tm_bytes
    ·cases h
   ·cases h
 | makeInterface t x => exact Tm_val Tm_makeInterface
 | makeFunc f x y => exact Tm_val (Tm_pure trivial)
 | makeMap t m =>
  cases m with
  | none => exact Tm_val Tm_makeMap
  | some m => simp [aop, pop, litOp, hop] at h
 | makeSlice t l c => exact Tm_val Tm_makeSlice
 | slice t x lo hi mx => exact Tm_val Tm_sliceAt
 | lookup t m k ok =>
  unfold aop at h
  simp only [pop, litOp, hop] at h
  split at h
  ·rename_i kt et r key hk hm hkey
   split at h
   ·split at h
    ·rename_i hc; exact Tm_val (Tm_lookup (flat_key hc.1 (aeval_sound hF hkey)))
    ·cases h
   ·cases h
  ·cases h
 | mapUpdate t m k x =>
  unfold aop at h
  simp only [pop, litOp, hop] at h
  split at h
  ·rename_i kt et r key u hk hm hkey hu
   split at h
   ·split at h
    ·rename_i hc; exact Tm_unit (Tm_mapUpdate (flat_key hc (aeval_sound hF hkey)))
    ·cases h
   ·cases h
  ·cases h
 | entry it => exact Tm_val Tm_entry
 | range t m => exact Tm_val Tm_range
 | extract t i => exact Tm_val Tm_extract
 | typeAssert x t u ok => exact Tm_val Tm_typeAssert
 | call c =>
  obtain ⟨callee, args, ats⟩ := c
  cases callee with
  | builtin b =>
   have hinv : (∀ cs, Tm E.P (builtin b ats type cs (args.map a.eval)) Any) → Tm E.P (execOp a.eval ⟨dst, .call ⟨.builtin b, args, ats⟩, type, pos, after, guard⟩) Any := fun hs => by
    show Tm E.P (resolve a.eval ⟨.builtin b, args, ats⟩ type >>= fun d => invoke d.target d.args) Any
    refine Tm_bind ?_
    exact hs _
   cases b with
   | len => exact hinv fun _ => Tm_val Tm_len
   | max => exact hinv fun _ => Tm_val Tm_max
   | min => exact hinv fun _ => Tm_val Tm_min
   | copy => exact hinv fun _ => Tm_val Tm_copy
   | append =>
    have key : ∀ t0 t1 e e' u1 u2, ats[0]? = some t0 → ats[1]? = some t1 → (E.ty t0).kd = .slice e → (E.ty t1).kd = .slice e' → aevals fr args.toList = some [u1, u2] → Tm E.P (execOp a.eval ⟨dst, .call ⟨.builtin .append, args, ats⟩, type, pos, after, guard⟩) Any := by
     intro t0 t1 e e' u1 u2 h0 h1 hk0 hk1 hargs
     obtain ⟨c1, c2, hl, _, _⟩ := (aevals_sound hF hargs).two
     have hl' : args.map a.eval = #[c1, c2] := by apply Array.ext'; simpa using hl
     refine hinv fun cs => ?_
     rw [hl']
     obtain ⟨d0, k1, k2⟩ := (hE.ty t0 (by rw [hk0]; simp)).kd
     obtain ⟨d1, k3, k4⟩ := (hE.ty t1 (by rw [hk1]; simp)).kd
     rw [hk0] at k2; rw [hk1] at k4; simp only [KdOK] at k2 k4; subst k2; subst k4
     exact Tm_val (Tm_append h0 h1 k1 k3)
    unfold aop at h
    simp only [pop, litOp, hop] at h
    split at h
    ·rename_i hargs h0 h1
     split at h
     ·rename_i hk0 hk1; exact key _ _ _ _ _ _ h0 h1 hk0 hk1 hargs
     ·cases h
    ·rename_i hargs h0 h1
     split at h
     ·rename_i hk0 hk1; exact key _ _ _ _ _ _ h0 h1 hk0 hk1 hargs
     ·cases h
    ·cases h
   | _ => simp [aop, pop, litOp, hop] at h
  | _ => simp [aop, pop, litOp, hop] at h
 | _ => simp [aop, pop, litOp, hop] at h
end Go.Mu
namespace Go.Mu
open Go Go.Conc
variable {E : Env} {ro : Option Nat} {K : Kr} {n : Nat}
def evNext (E : Env) (all os : List Oper) (dst : Option Tmp) (fr : Fr) (Q : Fr → List AObj → Prop) (v : AV) (σ : List AObj) : Prop :=
 match dst with
 | none => evOps E all os fr σ Q
 | some d => d < E.N ∧ evOps E all os (fr.put d v) σ Q
theorem evOps_cons (E : Env) (all os : List Oper) (o : Oper) (fr : Fr) (σ : List AObj) (Q : Fr → List AObj → Prop) : evOps E all (o :: os) fr σ Q =
  match wantA all fr o.guard with
  | none => False
  | some b => (b = true → evOp E fr σ o.type o.op (evNext E all os o.dst fr Q)) ∧ (b = false → evNext E all os o.dst fr Q (.tup []) σ) := rfl
def Done (E : Env) (Sh V : Nat → Prop) (K : Kr) (σ : List AObj) (w : World) (ds : List Deferred) (Q : Fr → List AObj → Prop) (a : Act) (w' : World) (V' : Nat → Prop) : Prop :=
 ∃ K' σ' fr', Q fr' σ' ∧ R K' σ' w' ∧ OwnV Sh V' K' σ' w' ∧ FR K' σ'.length E.N fr' a.tmps ∧ StepV V K σ w V' K' σ' w' ∧ a.defers = ds
theorem put_defers (a : Act) (d : Option Tmp) (v : Value) : (a.put d v).defers = a.defers := by cases d <;> rfl
/-! ### the model's steps -/
section
variable {P : Program} {main : Bool} {b : Frame} {a : Act} {k : List Item} {cs : List Frame} {w w' : World} {ops : Array Oper} {i : Nat} {rest : List Nat} {o : Oper}
theorem stepG_opR (ho : ops[i]? = some o) (hw : Region.wanted o (yielded ops a.tmps) = true) (hnd : ∀ c, o.op ≠ .defer c) :
  stepG P main (G (b.atR a (.inRegion ops (i :: rest) :: k)) cs) w = stepG.apply P true (b.atR a (.inRegion ops (i :: rest) :: k)) cs none (execOp a.eval o) w := by
 have he := Frame.eval_atR b a (.inRegion ops (i :: rest) :: k)
 simp only [Frame.atR] at he
 simp only [G, stepG, stepG.exec, Frame.atR, ho, hw, Option.map_some, Option.getD_some, if_true, stepG.oper, Frame.oper?, he]
 cases b.roundOf with
 | none => rfl
 | some l =>
  cases hop : o.op with
  | defer c => exact absurd hop (hnd c)
  | _ => rfl
def lst (P : Program) (b : Frame) (a : Act) (o : Oper) (w : World) : Array Event := seen P b.fn (if b.kind == .early then #[] else (execOp a.eval o).events P w #[])
theorem mem_lst {e : Event} (h : e ∈ lst P b a o w) : e ∈ (execOp a.eval o).events P w #[] := by
 have := mem_seen h
 split at this
 ·simp at this
 ·exact this
theorem stepG_opv {v : Value} (ho : ops[i]? = some o) (hw : Region.wanted o (yielded ops a.tmps) = true) (hnd : ∀ c, o.op ≠ .defer c)
  (hr : (execOp a.eval o).run P w = .ok (.value v) w' ∨ (execOp a.eval o).run P w = .ok .skip w' ∧ v = undef) :
  stepG P main (G (b.atR a (.inRegion ops (i :: rest) :: k)) cs) w = .go (G (b.atR (a.put o.dst v) (.inRegion ops rest :: k)) cs) w' (lst P b a o w) := by
 have hfin : ∀ v, (b.atR a (.inRegion ops (i :: rest) :: k)).finish v = b.atR (a.put o.dst v) (.inRegion ops rest :: k) := fun v => by rw [Frame.finish_atR, ho]; rfl
 rw [stepG_opR ho hw hnd, ← hfin]
 rcases hr with hr | ⟨hr, rfl⟩ <;> simp [stepG.apply, hr, G, Frame.atR, GStep.after, lst]
theorem stepG_ope {f : FuncId} {args : Array Value} (ho : ops[i]? = some o) (hw : Region.wanted o (yielded ops a.tmps) = true) (hnd : ∀ c, o.op ≠ .defer c)
  (hr : (execOp a.eval o).run P w = .ok (.enter f args) w') :
  stepG P main (G (b.atR a (.inRegion ops (i :: rest) :: k)) cs) w = .go (G (Frame.enter P f args .normal) (b.atR a (.inRegion ops (i :: rest) :: k) :: cs)) w' (lst P b a o w) := by
 rw [stepG_opR ho hw hnd]
 simp [stepG.apply, hr, G, Frame.atR, GStep.after, lst]
theorem stepG_opr {l : Nat} {f : FuncId} {tmps : Array Value} {as body : Code} (ho : ops[i]? = some o) (hw : Region.wanted o (yielded ops a.tmps) = true) (hnd : ∀ c, o.op ≠ .defer c)
  (hr : (execOp a.eval o).run P w = .ok (.round l f tmps as body) w') :
  stepG P main (G (b.atR a (.inRegion ops (i :: rest) :: k)) cs) w = .go (G (Frame.round l f tmps as body .normal) (b.atR a (.inRegion ops (i :: rest) :: k) :: cs)) w' (lst P b a o w) := by
 rw [stepG_opR ho hw hnd]
 simp [stepG.apply, hr, G, Frame.atR, GStep.after, lst]
theorem stepG_no (hw : ((ops[i]?).map (Region.wanted · (yielded ops a.tmps))).getD false = false) :
  stepG P main (G (b.atR a (.inRegion ops (i :: rest) :: k)) cs) w = .go (G (b.atR (a.put ((ops[i]?).bind (·.dst)) undef) (.inRegion ops rest :: k)) cs) w := by
 rw [← Frame.finish_atR]
 simp [G, stepG, stepG.exec, Frame.atR, hw]
theorem stepG_leave {fr c : Frame} {v : Value} (hm : fr.mode = .returning) (hd : fr.defers = []) (hk : fr.kind = .normal) {fn : Func} (hf : P.funcs[fr.fn]? = some fn) (hr : (results fn fr.tmps).run P w = .ok v w) :
  stepG P main (G fr (c :: cs)) w = .go (G (c.finish v) cs) w (seen P fr.fn ((results fn fr.tmps).events P w #[])) := by
 simp [G, stepG, unwind, doReturn, hm, hd, hk, hf, hr, GStep.after]
end
/-! ### an operation -/
section
variable {M : RMode E.P} {σ : List AObj} {w : World} {V : Nat → Prop} {a : Act} {b : Frame} {cs : List Frame} {k : List Item} {ops : Array Oper} {i : Nat} {rest : List Nat} {o : Oper} {Post : Goroutine → World → (Nat → Prop) → Prop}
theorem J_op0 (hR : R K σ w) (hO : OwnV M.Sh V K σ w) (ho : ops[i]? = some o) (hw : Region.wanted o (yielded ops a.tmps) = true) (hnd : ∀ c, o.op ≠ .defer c) (hT : Tm E.P (execOp a.eval o) Any) {X : Value → Kr → List AObj → World → World → Prop}
  (hs : ∀ w₁, R K σ w₁ → ∃ c K' σ' w', ((execOp a.eval o).run E.P w₁ = .ok (.value c) w' ∨ (execOp a.eval o).run E.P w₁ = .ok .skip w' ∧ c = undef) ∧ R K' σ' w' ∧ Step K σ w₁ K' σ' w' ∧ X c K' σ' w₁ w')
  (hk : ∀ c K' σ' w₁ w', Rel V w w₁ → R K' σ' w' → OwnV M.Sh (Newer V w₁.heap.size w'.heap.size) K' σ' w' → StepV V K σ w (Newer V w₁.heap.size w'.heap.size) K' σ' w' → X c K' σ' w₁ w' → M.J (G (b.atR (a.put o.dst c) (.inRegion ops rest :: k)) cs) w' (Newer V w₁.heap.size w'.heap.size) Post) :
  M.J (G (b.atR a (.inRegion ops (i :: rest) :: k)) cs) w V Post := by
 refine M.step rfl fun w₁ hr => ?_
 have hR1 := hR.rely hO hr
 have hO1 := hO.rely hr
 obtain ⟨c, K', σ', w', h1, h2, h3, h4⟩ := hs w₁ hR1
 refine ⟨_, _, _, stepG_opv ho hw hnd h1, ?_, hk c K' σ' w₁ w' hr h2 (hO1.step h2 h3) ((StepV.of_rel hr).trans (.of_step h3)) h4⟩
 have hsafe : ∀ w₀, R K σ w₀ → ∃ x w₀', (execOp a.eval o).run E.P w₀ = .ok x w₀' := fun w₀ h₀ => by
  obtain ⟨c, K', σ', w', h1, _⟩ := hs w₀ h₀
  rcases h1 with h1 | h1
  ·exact ⟨_, _, h1⟩
  ·exact ⟨_, _, h1.1⟩
 rcases h1 with h1 | ⟨h1, _⟩
 ·exact gua_of hT hR1 hO1 hsafe h1 h3 fun e he => mem_lst he
 ·exact gua_of hT hR1 hO1 hsafe h1 h3 fun e he => mem_lst he
theorem J_op (hR : R K σ w) (hO : OwnV M.Sh V K σ w) (ho : ops[i]? = some o) (hw : Region.wanted o (yielded ops a.tmps) = true) (hnd : ∀ c, o.op ≠ .defer c) (hT : Tm E.P (execOp a.eval o) Any) {X : Value → Kr → List AObj → World → Prop}
  (hs : ∀ w₁, R K σ w₁ → ∃ c K' σ' w', ((execOp a.eval o).run E.P w₁ = .ok (.value c) w' ∨ (execOp a.eval o).run E.P w₁ = .ok .skip w' ∧ c = undef) ∧ R K' σ' w' ∧ Step K σ w₁ K' σ' w' ∧ X c K' σ' w')
  (hk : ∀ c K' σ' w' V', R K' σ' w' → OwnV M.Sh V' K' σ' w' → StepV V K σ w V' K' σ' w' → X c K' σ' w' → M.J (G (b.atR (a.put o.dst c) (.inRegion ops rest :: k)) cs) w' V' Post) :
  M.J (G (b.atR a (.inRegion ops (i :: rest) :: k)) cs) w V Post :=
 J_op0 (X := fun c K' σ' _ w' => X c K' σ' w') hR hO ho hw hnd hT hs fun c K' σ' _ w' _ h1 h2 h3 h4 => hk c K' σ' w' _ h1 h2 h3 h4
theorem J_back {fr c : Frame} {X : Value → Prop} {w : World} {V : Nat → Prop} (h : LeavesAt M V fr w X) (hk : fr.kind = .normal) (hn : ∀ w₁ v, Rel V w w₁ → X v → M.J (G (c.finish v) cs) w₁ V Post) : M.J (G fr (c :: cs)) w V Post := by
 obtain ⟨fn, hf, h2⟩ := h.fn
 refine M.step rfl fun w₁ hr => ?_
 obtain ⟨v, h3, h4, h5⟩ := h2 w₁ hr
 refine ⟨_, _, _, stepG_leave h.mode h.defers hk hf h3, ⟨Nat.le_refl _, fun _ _ _ => rfl, rfl, rfl, rfl, Nat.le_refl _, fun e he => h5 e (mem_seen he)⟩, ?_⟩
 rw [newer_same]; exact hn w₁ v hr h4
theorem J_call {g : FuncId} {args : List AV} {X : AV → List AObj → Prop} (hcall : ACallsM M g args σ X) (hR : R K σ w) (hO : OwnV M.Sh V K σ w) (ho : ops[i]? = some o) (hw : Region.wanted o (yielded ops a.tmps) = true) (hnd : ∀ c, o.op ≠ .defer c)
  (hT : Tm E.P (execOp a.eval o) Any) {cargs : Array Value} (hrun : ∀ w₁, (execOp a.eval o).run E.P w₁ = .ok (.enter g cargs) w₁) (hV : VRs K σ.length args cargs.toList)
  (hk : ∀ v c K' σ' w' V', X v σ' → VR K' σ'.length v c → R K' σ' w' → OwnV M.Sh V' K' σ' w' → StepV V K σ w V' K' σ' w' → M.J (G (b.atR (a.put o.dst c) (.inRegion ops rest :: k)) cs) w' V' Post) :
  M.J (G (b.atR a (.inRegion ops (i :: rest) :: k)) cs) w V Post := by
 refine M.step rfl fun w₁ hr => ?_
 have hR1 := hR.rely hO hr
 have hO1 := hO.rely hr
 refine ⟨_, _, _, stepG_ope ho hw hnd (hrun w₁), gua_of hT hR1 hO1 (fun w₀ _ => ⟨_, _, hrun w₀⟩) (hrun w₁) (.refl _ _ _) fun e he => mem_lst he, ?_⟩
 rw [newer_same]
 refine M.bind (hcall K w₁ V cargs .normal _ hR1 hO1 hV) ?_
 rintro g' w' V' ⟨fr, v, σ', K', rfl, _, hkd, hl, hX, hR', hO', hS'⟩
 refine J_back hl hkd fun w₂ c hr2 hv => ?_
 have hfin : (b.atR a (.inRegion ops (i :: rest) :: k)).finish c = b.atR (a.put o.dst c) (.inRegion ops rest :: k) := by rw [Frame.finish_atR, ho]; rfl
 rw [hfin]
 exact hk v c K' σ' w₂ V' hX hv (hR'.rely hO' hr2) (hO'.rely hr2) (((StepV.of_rel hr).trans hS').trans (.of_rel hr2))
theorem J_round {r : Nat} {args : List AV} {X : AV → List AObj → Prop} {S : MC E.P} (hM : S M) (hcall : AYield S r args σ X) (hR : R K σ w) (hO : OwnV M.Sh V K σ w) (ho : ops[i]? = some o) (hw : Region.wanted o (yielded ops a.tmps) = true) (hnd : ∀ c, o.op ≠ .defer c)
  (hT : Tm E.P (execOp a.eval o) Any) {cargs : Array Value} (hrun : ∀ w₁ x w₂, (Instr.yield (K.φ r) cargs).run E.P w₁ = .ok x w₂ → (execOp a.eval o).run E.P w₁ = .ok x w₂) (hV : VRs K σ.length args cargs.toList)
  (hk : ∀ v c K' σ' w' V', X v σ' → VR K' σ'.length v c → R K' σ' w' → OwnV M.Sh V' K' σ' w' → StepV V K σ w V' K' σ' w' → M.J (G (b.atR (a.put o.dst c) (.inRegion ops rest :: k)) cs) w' V' Post) :
  M.J (G (b.atR a (.inRegion ops (i :: rest) :: k)) cs) w V Post := by
 refine M.step rfl fun w₁ hr => ?_
 have hR1 := hR.rely hO hr
 have hO1 := hO.rely hr
 obtain ⟨fn, tmps, as, body, h1, h2⟩ := hcall K w₁ cargs hR1 hV
 refine ⟨_, _, _, stepG_opr ho hw hnd (hrun _ _ _ h1), gua_of hT hR1 hO1 (fun w₀ h₀ => ?_) (hrun _ _ _ h1) (.refl _ _ _) fun e he => mem_lst he, ?_⟩
 ·obtain ⟨_, _, _, _, h3, _⟩ := hcall K w₀ cargs h₀ hV
  exact ⟨_, _, hrun _ _ _ h3⟩
 rw [newer_same]
 refine M.bind (h2 M hM V hO1 _ cs) ?_
 rintro g' w' V' ⟨v, c, σ', K', rfl, hX, hv, hR', hO', hS'⟩
 have hfin : (b.atR a (.inRegion ops (i :: rest) :: k)).finish c = b.atR (a.put o.dst c) (.inRegion ops rest :: k) := by rw [Frame.finish_atR, ho]; rfl
 rw [hfin]
 exact hk v c K' σ' w' V' hX hv hR' hO' ((StepV.of_rel hr).trans hS')
end
/-! ### operations one after the other, in the model -/
def wpOpM {P : Program} (M : RMode P) (ops : Array Oper) (i : Nat) (KK : Act → World → (Nat → Prop) → Prop) (a : Act) (w : World) (V : Nat → Prop) : Prop :=
 ∀ (b : Frame) (rest : List Nat) (k : List Item) (cs : List Frame) (Post : Goroutine → World → (Nat → Prop) → Prop),
  (∀ a' w' V', KK a' w' V' → M.J (G (b.atR a' (.inRegion ops rest :: k)) cs) w' V' Post) → M.J (G (b.atR a (.inRegion ops (i :: rest) :: k)) cs) w V Post
def wpOpsM {P : Program} (M : RMode P) (ops : Array Oper) (Q : Act → World → (Nat → Prop) → Prop) : List Nat → Act → World → (Nat → Prop) → Prop
 | [], a, w, V => Q a w V
 | i :: rest, a, w, V => wpOpM M ops i (wpOpsM M ops Q rest) a w V
theorem wpOpM.mono {P : Program} {M : RMode P} {ops : Array Oper} {i : Nat} {KK KK' : Act → World → (Nat → Prop) → Prop} {a : Act} {w : World} {V : Nat → Prop} (h : wpOpM M ops i KK a w V) (hk : ∀ a w V, KK a w V → KK' a w V) : wpOpM M ops i KK' a w V :=
 fun b rest k cs Post hp => h b rest k cs Post fun a' w' V' hq => hp a' w' V' (hk _ _ _ hq)
theorem wpOpsM.run {P : Program} {M : RMode P} {ops : Array Oper} {Q : Act → World → (Nat → Prop) → Prop} {b : Frame} {k : List Item} {cs : List Frame} {Post : Goroutine → World → (Nat → Prop) → Prop}
  (hp : ∀ a' w' V', Q a' w' V' → M.J (G (b.atR a' (.inRegion ops [] :: k)) cs) w' V' Post) : ∀ (l : List Nat) (a : Act) (w : World) (V : Nat → Prop), wpOpsM M ops Q l a w V → M.J (G (b.atR a (.inRegion ops l :: k)) cs) w V Post
 | [], a, w, V, h => hp a w V h
 | i :: l, a, w, V, h => h b l k cs Post fun a' w' V' h' => wpOpsM.run hp l a' w' V' h'
theorem wpOpM.unwanted {P : Program} {M : RMode P} {ops : Array Oper} {i : Nat} {o : Oper} {KK : Act → World → (Nat → Prop) → Prop} {a : Act} {w : World} {V : Nat → Prop} (ho : ops[i]? = some o) (hw : Region.wanted o (yielded ops a.tmps) = false)
  (h : ∀ w₁, Rel V w w₁ → KK (a.put o.dst undef) w₁ V) : wpOpM M ops i KK a w V := fun b rest k cs Post hp => by
 refine M.step rfl fun w₁ hr => ⟨_, _, _, stepG_no (by rw [ho]; simpa using hw), .idle _ _ _, ?_⟩
 rw [newer_same, ho]
 exact hp _ _ _ (h w₁ hr)
theorem next_sound {all os : List Oper} {dst : Option Tmp} {fr : Fr} {Q : Fr → List AObj → Prop} {Sh V V' : Nat → Prop} {σ σ' : List AObj} {w w' : World} {K K' : Kr} {a : Act} {v : AV} {c : Value} {X : Act → World → (Nat → Prop) → Prop}
  (ih : ∀ (K' : Kr) (σ' : List AObj) (w' : World) (V' : Nat → Prop) (fr : Fr) (a' : Act), evOps E all os fr σ' Q → R K' σ' w' → OwnV Sh V' K' σ' w' → FR K' σ'.length E.N fr a'.tmps → StepV V K σ w V' K' σ' w' → a'.defers = a.defers → X a' w' V')
  (h : evNext E all os dst fr Q v σ') (hR : R K' σ' w') (hO : OwnV Sh V' K' σ' w') (hF : FR K σ.length E.N fr a.tmps) (hS : StepV V K σ w V' K' σ' w') (hv : VR K' σ'.length v c) : X (a.put dst c) w' V' := by
 have hF' : FR K' σ'.length E.N fr a.tmps := hF.mono hS.ext hS.len
 cases dst with
 | none => exact ih K' σ' w' V' fr a h hR hO hF' hS rfl
 | some d => exact ih K' σ' w' V' (fr.put d v) _ h.2 hR hO (hF'.put h.1 hv) hS (put_defers _ _ _)
theorem opM_sound (hE : EnvOK E) {M : RMode E.P} (hM : E.S M) {fr : Fr} {σ : List AObj} {w : World} {V : Nat → Prop} {a : Act} {ops : Array Oper} {i : Nat} {o : Oper} {X : AV → List AObj → Prop} (ho : ops[i]? = some o) (hw : Region.wanted o (yielded ops a.tmps) = true)
  (h : evOp E fr σ o.type o.op X) (hR : R K σ w) (hO : OwnV M.Sh V K σ w) (hF : FR K σ.length E.N fr a.tmps) {KK : Act → World → (Nat → Prop) → Prop}
  (hk : ∀ K' σ' w' V' v c, X v σ' → R K' σ' w' → OwnV M.Sh V' K' σ' w' → VR K' σ'.length v c → StepV V K σ w V' K' σ' w' → KK (a.put o.dst c) w' V') : wpOpM M ops i KK a w V := by
 intro b rest k cs Post hp
 have hplain : (match aop E fr σ o.type o.op with | some (v, σ') => X v σ' | none => False) → ∃ v σ', aop E fr σ o.type o.op = some (v, σ') ∧ X v σ' := fun h => by
  split at h
  ·rename_i v σ' h1; exact ⟨v, σ', h1, h⟩
  ·exact h.elim
 have hfin : (∃ v σ', aop E fr σ o.type o.op = some (v, σ') ∧ X v σ') → (∀ c, o.op ≠ .defer c) → M.J (G (b.atR a (.inRegion ops (i :: rest) :: k)) cs) w V Post := by
  intro ⟨v, σ', h1, h2⟩ hnd
  refine J_op (X := fun c K' σ'' w' => σ'' = σ' ∧ VR K' σ'.length v c) hR hO ho hw hnd (aop_tm hE hF h1) (fun w₁ hR1 => ?_) (fun c K' σ'' w' V' g1 g2 g3 ⟨e, g4⟩ => ?_)
  ·obtain ⟨c, K', w', h3, h4, h5, h6⟩ := aop_sound hE hR1 hF h1
   exact ⟨c, K', σ', w', h3, h5, h6, rfl, h4⟩
  ·subst e; exact hp _ _ _ (hk _ _ _ _ _ _ h2 g1 g2 g4 g3)
 obtain ⟨dst, op, type, pos, after, guard⟩ := o
 simp only at h hplain
 cases op with
 | call c =>
  obtain ⟨callee, args, ats⟩ := c
  cases callee with
  | builtin bi => exact hfin (hplain h) (fun c hc => by cases hc)
  | value f =>
   simp only [evOp] at h
   have hnd : ∀ c, (⟨dst, .call ⟨.value f, args, ats⟩, type, pos, after, guard⟩ : Oper).op ≠ .defer c := fun c hc => by cases hc
   split at h
   ·rename_i g p q as hf has
    replace h := callA_sound hE h
    have hfv := aeval_sound hF hf
    have hav := aevals_sound hF has
    generalize hfe : a.eval f = fv at hfv
    cases hfv with
    | fn _ _ _ p' q' l1 l2 g1 g2 =>
     have heq : execOp a.eval ⟨dst, .call ⟨.value f, args, ats⟩, type, pos, after, guard⟩ = callFunc g (p'.toArray ++ args.map a.eval ++ q'.toArray) := by
      simp only [execOp, resolve, hfe, Deferred.ofValue]
      rfl
     refine J_call (h.2 M hM) hR hO ho hw hnd (by rw [heq]; exact h.1.tm _) (fun w₁ => by rw [heq]; exact h.1.run _ _) ?_ (fun v c K' σ' w' V' h1 h2 h3 h4 h5 => hp _ _ _ (hk _ _ _ _ _ _ h1 h3 h4 h2 h5))
     have := (VRs.append (K := K) (n := σ.length) (l := p) (l' := p') ⟨l1, g1⟩ hav).append (m := q) (m' := q') ⟨l2, g2⟩
     simpa using this
   ·rename_i r as hf has
    have hfv := aeval_sound hF hf
    have hav := aevals_sound hF has
    generalize hfe : a.eval f = fv at hfv
    cases hfv with
    | yield _ hr =>
     have e0 : (#[] : Array Value) ++ args.map a.eval = args.map a.eval := by simp
     have heq : execOp a.eval ⟨dst, .call ⟨.value f, args, ats⟩, type, pos, after, guard⟩ = Instr.yield (K.φ r) (args.map a.eval) := by
      simp only [execOp, resolve, hfe, Deferred.ofValue]
      show Instr.yield (K.φ r) (#[] ++ args.map a.eval) = _
      rw [e0]
     refine J_round hM h hR hO ho hw hnd ?_ (cargs := args.map a.eval) (fun w₁ x w₂ h1 => by rw [heq]; exact h1) (by simpa using hav) (fun v c K' σ' w' V' h1 h2 h3 h4 h5 => hp _ _ _ (hk _ _ _ _ _ _ h1 h3 h4 h2 h5))
     rw [heq]
     unfold Instr.yield Instr.getLoop
     refine Tm_bind (Tm_bind (Tm_getObj fun o => ?_))
     split
     ·exact Tm_pure (Tm_ite (Tm_bind Tm_stuck) trivial)
     ·trivial
   ·exact h.elim
  | invoke r m =>
   simp only [evOp] at h
   have hnd : ∀ c, (⟨dst, .call ⟨.invoke r m, args, ats⟩, type, pos, after, guard⟩ : Oper).op ≠ .defer c := fun c hc => by cases hc
   split at h
   ·rename_i t v0 as hf has
    split at h
    ·rename_i g hg
     replace h := callA_sound hE h
     have hfv := aeval_sound hF hf
     have hav := aevals_sound hF has
     generalize hfe : a.eval r = fv at hfv
     cases hfv with
     | iface _ _ c0 hc0 =>
      have e1 : (#[Value.iface t c0] ++ args.map a.eval)[0]? = some (.iface t c0) := by rw [Array.getElem?_append_left (by simp)]; rfl
      have e2 : (#[Value.iface t c0] ++ args.map a.eval).extract 1 (#[Value.iface t c0] ++ args.map a.eval).size = args.map a.eval := by
       apply Array.ext'; simp; exact List.take_of_length_le (by simp)
      have heq : execOp a.eval ⟨dst, .call ⟨.invoke r m, args, ats⟩, type, pos, after, guard⟩ = callMethod (.iface t c0) m (args.map a.eval) := by
       simp only [execOp, resolve, hfe]
       show invoke (.fn (.method m) #[]) (#[Value.iface t c0] ++ args.map a.eval) = _
       simp only [invoke, e1, e2]
      have hrun : ∀ w₁, (callMethod (.iface t c0) m (args.map a.eval)).run E.P w₁ = .ok (.enter g (#[c0] ++ args.map a.eval)) w₁ := fun w₁ => by
       simp only [callMethod, Sem.run_bind, run_program, Result.andThen_ok, hE.mt t m g hg]
       exact h.1.run _ _
      refine J_call (h.2 M hM) hR hO ho hw hnd ?_ (fun w₁ => by rw [heq]; exact hrun w₁) ?_ (fun v c K' σ' w' V' h1 h2 h3 h4 h5 => hp _ _ _ (hk _ _ _ _ _ _ h1 h3 h4 h2 h5))
      ·rw [heq]
       unfold callMethod
       refine Tm_bind (Tm_program (Tm_bind (Tm_mono (hE.mtT t m g hg c0) fun r hr => ?_)))
       obtain ⟨f', rc⟩ := r
       simp only at hr
       subst hr
       exact h.1.tm _
      ·have := VRs.cons hc0 hav
       simpa using this
    ·exact h.elim
   ·exact h.elim
 | next it bb =>
  simp only [evOp] at h
  have hnd : ∀ c, (⟨dst, .next it bb, type, pos, after, guard⟩ : Oper).op ≠ .defer c := fun c hc => by cases hc
  cases bb with
  | true =>
   rw [if_pos rfl] at h
   cases hit : aeval fr it with
   | none => rw [hit] at h; exact h.elim
   | some v0 =>
    rw [hit] at h
    refine J_op (X := fun c K' σ' w' => ∃ v, X v σ' ∧ VR K' σ'.length v c) hR hO ho hw hnd (Tm_val Tm_next) (fun w₁ hR1 => ?_) (fun c K' σ'' w' V' g1 g2 g3 ⟨v, g4, g5⟩ => hp _ _ _ (hk _ _ _ _ _ _ g4 g1 g2 g5 g3))
    obtain ⟨v, σ', c', w', h1, h2, h3, h4, h5⟩ := strNext_sound (P := E.P) (T := type) hR1 (aeval_sound hF hit) h
    exact ⟨c', K, σ', w', .inl (by simp only [execOp, Sem.run_bind, h1, Result.andThen_ok, Sem.run_pure]), h4, h5, v, h2, h3⟩
  | false =>
   rw [if_neg (by simp)] at h
   cases hit : aeval fr it with
   | none => rw [hit] at h; exact h.elim
   | some v0 =>
    rw [hit] at h
    refine J_op (X := fun c K' σ' w' => ∃ v, X v σ' ∧ VR K' σ'.length v c) hR hO ho hw hnd (Tm_val Tm_next) (fun w₁ hR1 => ?_) (fun c K' σ'' w' V' g1 g2 g3 ⟨v, g4, g5⟩ => hp _ _ _ (hk _ _ _ _ _ _ g4 g1 g2 g5 g3))
    obtain ⟨v, σ', c', w', h1, h2, h3, h4, h5⟩ := mapNext_sound (P := E.P) (T := type) hR1 (aeval_sound hF hit) h
    exact ⟨c', K, σ', w', .inl (by simp only [execOp, Sem.run_bind, h1, Result.andThen_ok, Sem.run_pure]), h4, h5, v, h2, h3⟩
 | binOp bo t x y u =>
  simp only [evOp] at h
  have hnd : ∀ c, (⟨dst, .binOp bo t x y u, type, pos, after, guard⟩ : Oper).op ≠ .defer c := fun c hc => by cases hc
  cases hy : isNilC y with
  | false => rw [hy] at h; exact hfin (hplain h) hnd
  | true =>
   rw [hy] at h
   obtain rfl := isNilC_inv hy
   obtain ⟨e, u', Z, hkd, hx, hZ, hX⟩ := nilA_inv h
   have hk' : (E.ty t).kd ≠ .other := by rw [hkd]; simp
   obtain ⟨d, hu, hd⟩ := (hE.ty t hk').kd
   rw [hkd] at hd; simp only [KdOK] at hd; subst hd
   obtain ⟨q, len, cap, hq, hnil⟩ := hZ _ _ _ (aeval_sound hF hx)
   have hc0 : a.eval (.const (.slice none 0 0)) = .slice none 0 0 := rfl
   have hte : Tm E.P (Op.equal t (.slice q len cap) (.slice none 0 0)) Any := by
    show Tm E.P (Op.equalIn (9999 + 1) t (.slice q len cap) (.slice none 0 0)) Any
    unfold Op.equalIn
    refine Tm_bind (Tm_underlyingP fun d hd => ?_)
    rw [hu] at hd; simp only [Option.some.injEq] at hd; subst hd
    cases q <;> trivial
   have heq := fun w => run_equal_slice_nil (P := E.P) w t e q len cap hu
   rcases hX with ⟨rfl, h1, h2⟩ | ⟨rfl, h1, h2⟩
   ·refine J_op (X := fun c K' σ' w' => σ' = σ ∧ c = .bool q.isNone) hR hO ho hw hnd ?_ (fun w₁ hR1 => ⟨_, K, σ, w₁, .inl (by simp [execOp, hq, hc0, eqGuard, binOp, heq]), hR1, .refl _ _ _, rfl, rfl⟩) (fun c K' σ'' w' V' g1 g2 g3 ⟨e, g4⟩ => ?_)
    ·refine Tm_val (Tm_bind (Tm_eqGuard ?_))
     rw [hq, hc0]
     exact Tm_bind (Tm_mono hte fun _ _ => trivial)
    ·subst e; subst g4
     cases hn : q.isNone with
     | false => exact hp _ _ _ (hk _ _ _ _ _ _ h1 g1 g2 (.bool _) g3)
     | true => exact hp _ _ _ (hk _ _ _ _ _ _ (h2 (hnil hn)) g1 g2 (.bool _) g3)
   ·refine J_op (X := fun c K' σ' w' => σ' = σ ∧ c = .bool (!q.isNone)) hR hO ho hw hnd ?_ (fun w₁ hR1 => ⟨_, K, σ, w₁, .inl (by simp [execOp, hq, hc0, eqGuard, binOp, heq]), hR1, .refl _ _ _, rfl, rfl⟩) (fun c K' σ'' w' V' g1 g2 g3 ⟨e, g4⟩ => ?_)
    ·refine Tm_val (Tm_bind (Tm_eqGuard ?_))
     rw [hq, hc0]
     exact Tm_bind (Tm_mono hte fun _ _ => trivial)
    ·subst e; subst g4
     cases hn : q.isNone with
     | false => exact hp _ _ _ (hk _ _ _ _ _ _ h1 g1 g2 (.bool _) g3)
     | true => exact hp _ _ _ (hk _ _ _ _ _ _ (h2 (hnil hn)) g1 g2 (.bool _) g3)
 | defer c => simp [evOp, aop, pop, litOp, hop] at h
 | _ => exact hfin (hplain h) (fun c hc => by cases hc)
theorem evOps_sound (hE : EnvOK E) {M : RMode E.P} (hM : E.S M) {ops : Array Oper} {Q : Fr → List AObj → Prop} {V0 : Nat → Prop} {K0 : Kr} {σ0 : List AObj} {w0 : World} {ds : List Deferred} : ∀ (l : List Nat) (os : List Oper), l.map (fun i => ops[i]?) = os.map some →
  ∀ (K : Kr) (σ : List AObj) (w : World) (V : Nat → Prop) (fr : Fr) (a : Act), evOps E ops.toList os fr σ Q → R K σ w → OwnV M.Sh V K σ w → FR K σ.length E.N fr a.tmps → StepV V0 K0 σ0 w0 V K σ w → a.defers = ds →
   wpOpsM M ops (Done E M.Sh V0 K0 σ0 w0 ds Q) l a w V
 | [], os, hl, K, σ, w, V, fr, a, h, hR, hO, hF, hS, hd => by
  cases os with
  | cons => simp at hl
  | nil => exact ⟨K, σ, fr, h, hR, hO, hF, hS, hd⟩
 | i :: l, os, hl, K, σ, w, V, fr, a, h, hR, hO, hF, hS, hd => by
  cases os with
  | nil => simp at hl
  | cons o os =>
   simp only [List.map_cons, List.cons.injEq] at hl
   obtain ⟨hi, hl⟩ := hl
   have ih : ∀ (K' : Kr) (σ' : List AObj) (w' : World) (V' : Nat → Prop) (fr : Fr) (a' : Act), evOps E ops.toList os fr σ' Q → R K' σ' w' → OwnV M.Sh V' K' σ' w' → FR K' σ'.length E.N fr a'.tmps → StepV V K σ w V' K' σ' w' → a'.defers = a.defers →
     wpOpsM M ops (Done E M.Sh V0 K0 σ0 w0 ds Q) l a' w' V' := fun K' σ' w' V' fr a' h1 h2 h3 h4 h5 h6 => evOps_sound hE hM l os hl K' σ' w' V' fr a' h1 h2 h3 h4 (hS.trans h5) (h6.trans hd)
   rw [evOps_cons] at h
   show wpOpM M ops i _ a w V
   split at h
   ·exact h.elim
   ·rename_i b hb
    have hw := wantA_sound hF hb
    cases b with
    | false => exact .unwanted hi hw fun w₁ hr => next_sound ih (h.2 rfl) (hR.rely hO hr) (hO.rely hr) hF (.of_rel hr) undef_VR
    | true => exact opM_sound hE hM hi hw (h.1 rfl) hR hO hF fun K' σ' w' V' v c h1 h2 h3 h4 h5 => next_sound ih h1 h2 h3 hF h5 h4
theorem ARun.region (hE : EnvOK E) {id : Nat} {ops : Array Oper} {k : List Item} {fr : Fr} {σ : List AObj} {Q : Option Code → Fr → List AObj → Prop}
  (h : evOps E ops.toList ops.toList fr σ fun fr σ => ARun E ro k fr σ Q) : ARun E ro (.code (.region id ops false) :: k) fr σ Q := by
 intro M hM K w V a b cs hb hR hO hF
 have hl : (List.range ops.size).map (fun i => ops[i]?) = ops.toList.map some := by
  apply List.ext_getElem
  ·simp
  ·intro i h1 h2
   simp at h1 h2 ⊢
 refine M.step rfl fun w₁ hr => ⟨_, _, _, show stepG E.P M.main (G (b.atR a (.code (.region id ops false) :: k)) cs) w₁ = .go (G (b.atR a (.inRegion ops (List.range ops.size) :: k)) cs) w₁ by simp [G, stepG, stepG.exec, Frame.atR], .idle _ _ _, ?_⟩
 rw [newer_same]
 refine wpOpsM.run ?_ _ _ _ _ (evOps_sound hE hM (List.range ops.size) ops.toList hl K σ w₁ V fr a h (hR.rely hO hr) (hO.rely hr) hF (.of_rel (V := V) hr) rfl)
 rintro a' w' V' ⟨K', σ', fr', hq, h2, h3, h4, h5, h6⟩
 refine M.step rfl fun w₂ hr2 => ⟨_, _, _, show stepG E.P M.main (G (b.atR a' (.inRegion ops [] :: k)) cs) w₂ = .go (G (b.atR a' k) cs) w₂ by simp [G, stepG, stepG.exec, Frame.atR], .idle _ _ _, ?_⟩
 rw [newer_same]
 exact ARun.go (hq M hM) (hb.mono h5.ext h5.len) (h2.rely h3 hr2) (h3.rely hr2) h4 (h5.trans (.of_rel hr2)) h6
end Go.Mu
