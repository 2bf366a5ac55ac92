/- Part T of the abstract layer: statements whose order is drawn: the proof. -/
import Derived.Test.YtgbdndlmdklefaaGreatK09
set_option linter.unusedSimpArgs false
set_option linter.unusedVariables false
namespace Go.Mu
open Go

variable {E : Env} {ro : Option Nat} {n : Nat}

/-- What is settled of a statement at hand. -/
structure Ctx where
  E : Env
  M : RMode E.P
  V0 : Nat → Prop
  ops : Array Oper
  m : List Nat
  L : List (Nat × List Nat)
  K0 : Kr
  σ0 : List AObj
  w0 : World
  ds : List Deferred
  Q : Fr → List AObj → Prop

def PendOK (E : Env) (ops : Array Oper) (fr : Fr) (σ : List AObj) (o : Oper) : Prop :=
  ∃ b v, wantA ops.toList fr o.guard = some b ∧ (b = true → nop E fr σ o.type o.op = some (v, σ)) ∧ (b = false → v = .tup []) ∧ ∀ d, o.dst = some d → d < E.N ∧ fr.get d = some v
def EarlyOK (E : Env) (Sh V : Nat → Prop) (w0 : World) (K : Kr) (σ : List AObj) (w : World) (a : Act) (o : Oper) (b : Nat) : Prop :=
  ∃ d t cc T, o.dst = some d ∧ o.op = .alloc t ∧ a.tmps[d]? = some (.pointer (some ⟨b, 0, none⟩)) ∧ w.heap[b]? = some (.cells cc T (0, 0)) ∧ VRs K σ.length (E.ty t).zero.cells cc.toList ∧ (∀ c ∈ cc.toList, c.oneCell' = true) ∧
    Free K σ b ∧ (∀ p, K.S b p = none) ∧ w0.heap.size ≤ b ∧ (∀ g cs, layV g = some cs → g ≠ b) ∧ V b ∧ ¬ Sh b

structure Inv (C : Ctx) (X : Nat → Prop) (L1 L2 : List (Nat × List Nat)) (eb : Nat → Nat) (V : Nat → Prop) (K : Kr) (σ : List AObj) (w : World) (fr : Fr) (a : Act) : Prop where
  split : C.L = L1 ++ L2
  ev : evD C.E C.ops.toList L2 fr σ C.Q
  closed : ∀ j o, C.ops[j]? = some o → X j → ∀ e ∈ o.after, Region.binds .any e = true → X e.on
  p1 : ∀ p ∈ L1, X p.1 ∨ ∃ o, C.ops[p.1]? = some o ∧ isNp p o = true ∧ PendOK C.E C.ops fr σ o
  p2 : ∀ p ∈ L2, X p.1 → ∃ o, C.ops[p.1]? = some o ∧ isA C.E.ty C.E.N o = true ∧ EarlyOK C.E C.M.Sh V C.w0 K σ w a o (eb p.1)
  inj : ∀ p ∈ L2, ∀ q ∈ L2, X p.1 → X q.1 → eb p.1 = eb q.1 → p.1 = q.1
  fsz : a.tmps.size = C.E.N
  fr : ∀ t v, fr.get t = some v → (∃ c, a.tmps[t]? = some c ∧ VR K σ.length v c) ∨
    (∃ p ∈ L1, ¬ X p.1 ∧ ∃ o, C.ops[p.1]? = some o ∧ o.dst = some t) ∨ (∃ p ∈ L2, X p.1 ∧ ∃ o, C.ops[p.1]? = some o ∧ o.dst = some t)
  rel : R K σ w
  own : OwnV C.M.Sh V K σ w
  step : StepV C.V0 C.K0 C.σ0 C.w0 V K σ w
  defers : a.defers = C.ds

variable {C : Ctx} {X : Nat → Prop} {L1 L2 : List (Nat × List Nat)} {eb : Nat → Nat} {V : Nat → Prop} {K : Kr} {σ : List AObj} {w : World} {fr : Fr} {a : Act}

structure DOK (C : Ctx) : Prop where
  E : EnvOK C.E
  M : C.E.S C.M
  masks : masksOK C.m C.ops = true
  all : ∀ i, i < C.ops.size → ∃ p ∈ C.L, p.1 = i
  prs : pairs (chk C.E.ty C.E.N C.m C.ops) C.L = true
  self : ∀ p ∈ C.L, selfOK C.ops p = true

theorem DOK.of (hE : EnvOK C.E) (hM : C.E.S C.M) (h : drawOK C.E.ty C.E.N C.ops (C.m, C.L) = true) : DOK C := by
  simp only [drawOK, Bool.and_eq_true] at h
  obtain ⟨⟨⟨h1, h2⟩, h3⟩, h4⟩ := h
  refine ⟨hE, hM, h1, fun i hi => ?_, h3, fun p hp => List.all_eq_true.1 h4 p hp⟩
  have := List.all_eq_true.1 h2 i (List.mem_range.2 hi)
  obtain ⟨p, hp, he⟩ := List.any_eq_true.1 this
  exact ⟨p, hp, by simpa using he⟩

theorem DOK.selfs (h : DOK C) {p : Nat × List Nat} (hp : p ∈ C.L) {o : Oper} (ho : C.ops[p.1]? = some o) : (p.2 = [p.1] → isCl o.op = true) ∧ (isNp p o = true → ∀ d, o.dst = some d → d ∉ o.looksAt C.ops) := by
  have hs := h.self p hp
  simp only [selfOK, ho, Bool.and_eq_true, Bool.or_eq_true, Bool.not_eq_true', beq_eq_false_iff_ne, ne_eq, List.all_eq_true, Option.mem_toList, List.contains_eq_mem, decide_eq_false_iff_not] at hs
  refine ⟨fun e => hs.1.resolve_left fun h => h e, fun hn => ?_⟩
  rcases hs.2 with h | h
  · rw [hn] at h; cases h
  · exact h
/-- What is known of two operations, of which the list has one before the other. -/
structure Two (C : Ctx) (p q : Nat × List Nat) (o o' : Oper) : Prop where
  ne : p.1 ≠ q.1
  back : pred C.m p.1 q.1 = false
  dep : isA C.E.ty C.E.N o' = true ∨ isNp p o = true ∨ pred C.m q.1 p.1 = true
  dst : isNp q o' = true ∨ isA C.E.ty C.E.N o' = true → ∀ d, o'.dst = some d → d ∉ nms C.ops o
  eff : isNp q o' = true ∨ isA C.E.ty C.E.N o' = true ∨ isNp p o = false ∨ pred C.m q.1 p.1 = true ∨ ((∀ d, o'.dst = some d → d ∉ nms C.ops o) ∧ (isL o.op = true → p.1 ∈ q.2))
  reads : isNp p o = true → pred C.m q.1 p.1 = true ∨ ∀ d, o.dst = some d → d ∉ nms C.ops o'

theorem DOK.two (h : DOK C) (hs : C.L = L1 ++ L2) {p q : Nat × List Nat} (hp : p ∈ L1) (hq : q ∈ L2) {o o' : Oper} (ho : C.ops[p.1]? = some o) (ho' : C.ops[q.1]? = some o') : Two C p q o o' := by
  have h1 := pairs_spec (hs ▸ h.prs) p hp q hq
  simp only [chk, ho, ho', Bool.and_eq_true, Bool.or_eq_true, Bool.not_eq_true', bne_iff_ne, ne_eq, List.all_eq_true, Option.mem_toList, List.contains_eq_mem, decide_eq_false_iff_not, decide_eq_true_eq] at h1
  obtain ⟨⟨⟨⟨⟨h1, h2⟩, h3⟩, h4⟩, h5⟩, h6⟩ := h1
  refine ⟨h1, h2, by rcases h3 with (h3 | h3) | h3 <;> simp [h3], fun hk d hd => ?_, ?_, fun hk => ?_⟩
  · rcases h4 with h4 | h4
    · simp only [Bool.or_eq_false_iff] at h4
      rcases hk with hk | hk
      · rw [h4.1] at hk; cases hk
      · rw [h4.2] at hk; cases hk
    · exact h4 d hd
  · rcases h5 with (((h5 | h5) | h5) | h5) | h5
    · exact .inl h5
    · exact .inr (.inl h5)
    · exact .inr (.inr (.inl h5))
    · exact .inr (.inr (.inr (.inl h5)))
    · refine .inr (.inr (.inr (.inr ⟨fun d hd => h5.1 d hd, fun hl => ?_⟩)))
      rcases h5.2 with h7 | h7
      · rw [hl] at h7; cases h7
      · exact h7
  · rcases h6 with (h6 | h6) | h6
    · rw [hk] at h6; cases h6
    · exact .inl h6
    · exact .inr fun d hd => h6 d hd

theorem isA_inv {ty : Nat → TI} {N : Nat} {o : Oper} (h : isA ty N o = true) : ∃ t d, o.op = .alloc t ∧ o.dst = some d ∧ (ty t).kd.agg.isSome = true ∧ d < N ∧ o.guard = none := by
  unfold isA at h
  split at h
  · rename_i t d h1 h2
    simp only [Bool.and_eq_true, decide_eq_true_eq, Option.isNone_iff_eq_none] at h
    exact ⟨t, d, h1, h2, h.1.1, h.1.2, h.2⟩
  · cases h
theorem not_isN_of_A {ty : Nat → TI} {N : Nat} {p : Nat × List Nat} {o : Oper} (h : isA ty N o = true) : isNp p o = false := by
  obtain ⟨t, d, h1, _⟩ := isA_inv h
  unfold isNp
  rw [h1]; rfl

/-- Two frames that differ at one slot look alike to who does not look there. -/
theorem get_put_ne {o : Oper} {ops : Array Oper} {d : Nat} {v : AV} (h : d ∉ o.looksAt ops) : ∀ t ∈ o.looksAt ops, fr.get t = (fr.put d v).get t := fun t ht => by
  rw [Fr.get_put, if_neg]; intro e; subst e; exact h ht

theorem PendOK.put {o : Oper} {d : Nat} {v : AV} {E : Env} {ops : Array Oper} (h : PendOK E ops fr σ o) (hd : d ∉ nms ops o) : PendOK E ops (fr.put d v) σ o := by
  obtain ⟨b, u, h1, h2, h3, h4⟩ := h
  have hl := get_put_ne (fr := fr) (v := v) (o := o) (ops := ops) (d := d) (fun hm => hd (List.mem_append_right _ hm))
  refine ⟨b, u, by rw [← wantA_like hl]; exact h1, fun hb => by rw [← nop_like _ (like_of hl)]; exact h2 hb, h3, fun e he => ?_⟩
  have hne : d ≠ e := fun x => hd (List.mem_append_left _ (by rw [he, x]; simp))
  rw [Fr.get_put, if_neg hne]
  exact h4 e he

theorem nthO_ops {i : Nat} {o : Oper} {ops : Array Oper} (h : ops[i]? = some o) : nthO ops.toList i = some o := by rw [nthO_eq]; simpa using h

/-- One that may come up at any time is looked at before it comes up. -/
theorem Inv.advN (hD : DOK C) {p : Nat × List Nat} (h : Inv C X L1 (p :: L2) eb V K σ w fr a) (hp : ¬ X p.1) {o : Oper} (ho : C.ops[p.1]? = some o) (hn : isNp p o = true) : ∃ fr', Inv C X (L1 ++ [p]) L2 eb V K σ w fr' a := by
  obtain ⟨b, v, rs', hb, hv1, hv2, hv3⟩ := evD_N hn (nthO_ops ho) h.ev
  obtain ⟨i, rs⟩ := p
  have hself := (hD.selfs (by rw [h.split]; simp) ho).2 hn
  ·
    cases hd : o.dst with
    | none =>
      rw [hd] at hv3
      refine ⟨fr, ⟨by rw [h.split]; simp, hv3.2, h.closed, fun q hq => ?_, fun q hq => h.p2 q (by simp [hq]), fun q hq q' hq' => h.inj q (by simp [hq]) q' (by simp [hq']), h.fsz, fun t u hu => ?_, h.rel, h.own, h.step, h.defers⟩⟩
      · rcases List.mem_append.1 hq with hq | hq
        · exact h.p1 q hq
        · simp at hq; subst hq
          exact .inr ⟨o, ho, hn, b, v, hb, hv1, hv2, fun d hd' => by rw [hd] at hd'; cases hd'⟩
      · rcases h.fr t u hu with h1 | ⟨q, h1, h2⟩ | ⟨q, h1, h2, h3⟩
        · exact .inl h1
        · exact .inr (.inl ⟨q, by simp [h1], h2⟩)
        · rcases List.mem_cons.1 h1 with rfl | h1
          · exact absurd h2 hp
          · exact .inr (.inr ⟨q, h1, h2, h3⟩)
    | some d =>
      rw [hd] at hv3
      have hl := get_put_ne (fr := fr) (v := v) (o := o) (ops := C.ops) (d := d) (fun hm => hself d hd hm)
      refine ⟨fr.put d v, ⟨by rw [h.split]; simp, hv3.2.2, h.closed, fun q hq => ?_, fun q hq => h.p2 q (by simp [hq]), fun q hq q' hq' => h.inj q (by simp [hq]) q' (by simp [hq']), h.fsz, fun t u hu => ?_, h.rel, h.own, h.step, h.defers⟩⟩
      · rcases List.mem_append.1 hq with hq | hq
        · rcases h.p1 q hq with h1 | ⟨oq, h1, h2, h3⟩
          · exact .inl h1
          · exact .inr ⟨oq, h1, h2, h3.put ((hD.two h.split hq (q := (i, rs)) (by simp) h1 ho).dst (.inl hn) d hd)⟩
        · simp at hq; subst hq
          refine .inr ⟨o, ho, hn, b, v, by rw [← wantA_like hl]; exact hb, fun e => by rw [← nop_like _ (like_of hl)]; exact hv1 e, hv2, fun d' hd' => ?_⟩
          rw [hd] at hd'; simp at hd'; subst hd'
          exact ⟨hv3.1, by rw [Fr.get_put, if_pos rfl]⟩
      · rw [Fr.get_put] at hu
        by_cases e : d = t
        · subst e
          exact .inr (.inl ⟨(i, rs), by simp, hp, o, ho, hd⟩)
        · rw [if_neg e] at hu
          rcases h.fr t u hu with h1 | ⟨q, h1, h2⟩ | ⟨q, h1, h2, h3⟩
          · exact .inl h1
          · exact .inr (.inl ⟨q, by simp [h1], h2⟩)
          · rcases List.mem_cons.1 h1 with rfl | h1
            · exact absurd h2 hp
            · exact .inr (.inr ⟨q, h1, h2, h3⟩)

theorem EarlyOK.mono {E : Env} {Sh V V' : Nat → Prop} (hVV : ∀ b, V b → V' b) {w0 w w' : World} {K K' : Kr} {σ σ' : List AObj} {a a' : Act} {o : Oper} {b : Nat} (h : EarlyOK E Sh V w0 K σ w a o b) (he : Ext σ.length K K') (hn : σ.length ≤ σ'.length) (hh : w'.heap[b]? = w.heap[b]?) (hf : Free K σ b → Free K' σ' b) (hS : ∀ p, K'.S b p = K.S b p)
    (ha : ∀ d, o.dst = some d → a'.tmps[d]? = a.tmps[d]?) : EarlyOK E Sh V' w0 K' σ' w' a' o b := by
  obtain ⟨d, t, cc, T, h1, h2, h3, h4, h5, h6, h7, h8, h9⟩ := h
  exact ⟨d, t, cc, T, h1, h2, by rw [ha d h1]; exact h3, by rw [hh]; exact h4, h5.mono he hn, h6, hf h7, fun p => by rw [hS]; exact h8 p, h9.1, h9.2.1, hVV _ h9.2.2.1, h9.2.2.2⟩

/-- A new variable that came up early is looked at now. -/
theorem Inv.advA (hD : DOK C) {p : Nat × List Nat} (h : Inv C X L1 (p :: L2) eb V K σ w fr a) (hp : X p.1) : ∃ K' σ' fr', Inv C X (L1 ++ [p]) L2 eb V K' σ' w fr' a := by
  obtain ⟨o, ho, hA, he⟩ := h.p2 p (by simp) hp
  have hev := evD_E (not_isN_of_A hA) (hD.selfs (by rw [h.split]; simp) ho).1 (nthO_ops ho) h.ev
  obtain ⟨i, rs⟩ := p
  obtain ⟨t0, d0, g1, g2, g3, g4, g5⟩ := isA_inv hA
  simp only [evDo, g5, wantA, g1, g2] at hev
  have hev := hev.1 trivial
  have e1 : evOp C.E fr σ o.type (.alloc t0) (evNextD C.E C.ops.toList rs L2 (some d0) fr C.Q) = give2 (evNextD C.E C.ops.toList rs L2 (some d0) fr C.Q) (hop C.E.ty fr σ (.alloc t0)) := evOp_alloc
  rw [e1] at hev
  simp only [hop, g3, if_true, give2] at hev
  obtain ⟨d, t, cc, T, h1, h2, h3, h4, h5, h6, h7, h8, h9⟩ := he
  rw [g2] at h1; simp at h1; subst h1
  rw [g1] at h2; simp at h2; subst h2
  obtain ⟨r1, r2⟩ := h.rel.adopt h4 h5 h6 h7 h8 h9.2.1
  have hext : Ext σ.length K (K.setφ σ.length (eb i)) := Ext.setφ K _ _
  obtain ⟨hv1, _, hv3⟩ := hev
  refine ⟨_, _, fr.put d0 (.ptr σ.length 0), ⟨by rw [h.split]; simp, hv3, h.closed, fun q hq => ?_, fun q hq hx => ?_, fun q hq q' hq' => h.inj q (by simp [hq]) q' (by simp [hq']), h.fsz, fun t u hu => ?_, r1, ?_, ?_, h.defers⟩⟩
  · rcases List.mem_append.1 hq with hq | hq
    · rcases h.p1 q hq with k1 | ⟨oq, k1, k2, k3⟩
      · exact .inl k1
      · have k4 := k3.put (d := d0) (v := .ptr σ.length 0) ((hD.two h.split hq (q := (i, rs)) (by simp) k1 ho).dst (.inr hA) d0 g2)
        obtain ⟨b, u, l1, l2, l3, l4⟩ := k4
        exact .inr ⟨oq, k1, k2, b, u, l1, fun hb => nop_more (isNp_or k2) (l2 hb), l3, l4⟩
    · simp at hq; subst hq; exact .inl hp
  · obtain ⟨oq, k1, k2, k3⟩ := h.p2 q (by simp [hq]) hx
    refine ⟨oq, k1, k2, k3.mono (fun _ h => h) hext (by simp) rfl (r2 _ fun e => ?_) (fun _ => rfl) (fun _ _ => rfl)⟩
    have := h.inj q (by simp [hq]) (i, rs) (by simp) hx hp e
    have hs : C.L = (L1 ++ [(i, rs)]) ++ L2 := by rw [h.split]; simp
    exact (hD.two hs (p := (i, rs)) (by simp) hq ho k1).ne this.symm
  · rw [Fr.get_put] at hu
    by_cases e : d0 = t
    · subst e
      rw [if_pos rfl] at hu; simp at hu; subst hu
      refine .inl ⟨_, h3, ?_⟩
      have := VR.ptr (K := K.setφ σ.length (eb i)) (n := (σ ++ [AObj.cells (C.E.ty t0).zero.cells]).length) σ.length 0 (by simp)
      simpa [Kr.setφ] using this
    · rw [if_neg e] at hu
      rcases h.fr t u hu with ⟨c, k1, k2⟩ | ⟨q, k1, k2⟩ | ⟨q, k1, k2, oq, k3, k4⟩
      · exact .inl ⟨c, k1, k2.mono hext (by simp)⟩
      · exact .inr (.inl ⟨q, by simp [k1], k2⟩)
      · rcases List.mem_cons.1 k1 with rfl | k1
        · rw [ho] at k3; simp at k3; subst k3
          rw [g2] at k4; simp at k4; exact absurd k4 e
        · exact .inr (.inr ⟨q, k1, k2, oq, k3, k4⟩)
  · refine ⟨fun b hb => ?_, fun b o v hv => h.own.stab b o v hv, h.own.lay, h.own.sh⟩
    by_cases e : b = eb i
    · subst e; exact h9.2.2
    · exact h.own.obj b fun hf => hb (r2 b e hf)
  · have hs := h.step
    refine ⟨hs.ext.trans hext hs.len, by have := hs.len; simp; omega, hs.size, fun b hb hv hf => ?_, hs.sub, hs.new, hs.os, hs.tape, hs.output⟩
    obtain ⟨m1, m2, m3⟩ := hs.keep b hb hv hf
    exact ⟨m1, r2 b (by omega) m2, m3⟩

theorem Inv.advTo (hD : DOK C) {M : List (Nat × List Nat)} : ∀ {L1 L2 : List (Nat × List Nat)} {K : Kr} {σ : List AObj} {fr : Fr}, Inv C X L1 (M ++ L2) eb V K σ w fr a → (∀ p ∈ M, X p.1 ∨ ∃ o, C.ops[p.1]? = some o ∧ isNp p o = true) → ∃ K' σ' fr', Inv C X (L1 ++ M) L2 eb V K' σ' w fr' a := by
  induction M with
  | nil => intro L1 L2 K σ fr h _; exact ⟨K, σ, fr, by simpa using h⟩
  | cons p M ih =>
    intro L1 L2 K σ fr h hM
    have hstep : ∃ K' σ' fr', Inv C X (L1 ++ [p]) (M ++ L2) eb V K' σ' w fr' a := by
      by_cases hx : X p.1
      · exact h.advA hD hx
      · rcases hM p (by simp) with h1 | ⟨o, h1, h2⟩
        · exact absurd h1 hx
        · obtain ⟨fr', h3⟩ := h.advN hD hx h1 h2
          exact ⟨K, σ, fr', h3⟩
    obtain ⟨K1, σ1, fr1, h1⟩ := hstep
    obtain ⟨K2, σ2, fr2, h2⟩ := ih h1 (fun q hq => hM q (by simp [hq]))
    exact ⟨K2, σ2, fr2, by simpa using h2⟩
end Go.Mu
set_option linter.unusedSimpArgs false
set_option linter.unusedVariables false
namespace Go.Mu
open Go

variable {ro : Option Nat} {n : Nat}
variable {C : Ctx} {X : Nat → Prop} {L1 L2 : List (Nat × List Nat)} {eb : Nat → Nat} {V : Nat → Prop} {K : Kr} {σ : List AObj} {w : World} {fr : Fr} {a : Act}

theorem order_of {α : Type} {L : List α} {p q : α} (hp : p ∈ L) (hq : q ∈ L) : q = p ∨ (∃ A B, L = A ++ B ∧ q ∈ A ∧ p ∈ B) ∨ (∃ A B, L = A ++ B ∧ p ∈ A ∧ q ∈ B) := by
  obtain ⟨A, B, rfl⟩ := List.append_of_mem hp
  rcases List.mem_append.1 hq with h | h
  · exact .inr (.inl ⟨A, p :: B, rfl, h, by simp⟩)
  · rcases List.mem_cons.1 h with h | h
    · exact .inl h
    · exact .inr (.inr ⟨A ++ [p], B, by simp, by simp, h⟩)

theorem put_get {a : Act} {d : Option Tmp} {c : Value} {t : Nat} (h : d ≠ some t) : (a.put d c).tmps[t]? = a.tmps[t]? := by
  cases d with
  | none => rfl
  | some d =>
    have hne : d ≠ t := fun e => h (by rw [e])
    simp [Act.put, Array.getElem?_setIfInBounds_ne hne]
theorem put_size {a : Act} {d : Option Tmp} {c : Value} : (a.put d c).tmps.size = a.tmps.size := by
  cases d with
  | none => rfl
  | some d => simp [Act.put]

/-- An operation whose time has come finds what it looks at. -/
theorem Inv.looks (hD : DOK C) (h : Inv C X L1 L2 eb V K σ w fr a) {p : Nat × List Nat} (hp : p ∈ C.L) (hx : ¬ X p.1) {o : Oper} (ho : C.ops[p.1]? = some o) (hr : ∀ e ∈ o.after, Region.binds .any e = true → X e.on)
    (hpos : ∀ q ∈ L2, X q.1 → ∃ A B, C.L = A ++ B ∧ p ∈ A ∧ q ∈ B) (hself : isNp p o = true → ∀ d, o.dst = some d → d ∉ o.looksAt C.ops) (hnp : isNp p o = false → ∀ q ∈ L1, q ≠ p) : FR K σ.length C.E.N (fr.only (o.looksAt C.ops)) a.tmps := by
  refine ⟨h.fsz, fun t v hv => ?_⟩
  rw [Fr.get_only] at hv
  split at hv
  · rename_i ht
    have ht : t ∈ o.looksAt C.ops := by simpa using ht
    rcases h.fr t v hv with h1 | ⟨q, hq, hxq, oq, hoq, hdq⟩ | ⟨q, hq, hxq, oq, hoq, hdq⟩
    · exact h1
    · exfalso
      have hqN : isNp q oq = true := by
        rcases h.p1 q hq with k | ⟨o', k1, k2, _⟩
        · exact absurd k hxq
        · rw [hoq] at k1; simp at k1; subst k1; exact k2
      have hqL : q ∈ C.L := by rw [h.split]; simp [hq]
      rcases order_of hp hqL with e | ⟨A, B, hs, hqA, hpB⟩ | ⟨A, B, hs, hpA, hqB⟩
      · subst e
        rw [ho] at hoq; simp at hoq; subst hoq
        exact hself hqN t hdq ht
      · rcases (hD.two hs hqA hpB hoq ho).reads hqN with k | k
        · exact hxq (pred_in hD.masks h.closed q.1 p.1 o ho hr k)
        · exact k t hdq (List.mem_append_right _ ht)
      · exact (hD.two hs hpA hqB ho hoq).dst (.inl hqN) t hdq (List.mem_append_right _ ht)
    · exfalso
      obtain ⟨o', k1, k2, _⟩ := h.p2 q hq hxq
      rw [hoq] at k1; simp at k1; subst k1
      obtain ⟨A, B, hs, hpA, hqB⟩ := hpos q hq hxq
      exact (hD.two hs hpA hqB ho hoq).dst (.inr k2) t hdq (List.mem_append_right _ ht)
  · cases hv

theorem only_like {o : Oper} {ops : Array Oper} : ∀ t ∈ o.looksAt ops, fr.get t = (fr.only (o.looksAt ops)).get t := fun t ht => by
  rw [Fr.get_only, if_pos (by simpa using ht)]

theorem evOp_of_N {E : Env} {type : TypeId} {op : Op} {v : AV} {σ' : List AObj} {Y : AV → List AObj → Prop} (hn : isN op = true) (h : aop E fr σ type op = some (v, σ')) (hY : Y v σ') : evOp E fr σ type op Y := by
  have key : (match aop E fr σ type op with | some (v, σ') => Y v σ' | none => False) := by rw [h]; exact hY
  cases op with
  | call c =>
    obtain ⟨callee, args, ats⟩ := c
    cases callee with
    | builtin b => exact key
    | _ => simp [isN] at hn
  | next it b => simp [isN] at hn
  | binOp bo t x y u =>
    have hy : isNilC y = false := by simpa [isN] using hn
    simp only [evOp, hy]
    exact key
  | _ => exact key

theorem Inv.early (hD : DOK C) (h : Inv C X L1 L2 eb V K σ w fr a) {V' : Nat → Prop} {K' : Kr} {σ' : List AObj} {w' : World} (hS : StepV V K σ w V' K' σ' w') {p q : Nat × List Nat} {o : Oper} (ho : C.ops[p.1]? = some o) (hq : q ∈ L2) (hx : X q.1)
    (hpos : ∃ A B, C.L = A ++ B ∧ p ∈ A ∧ q ∈ B) {c : Value} : ∃ oq, C.ops[q.1]? = some oq ∧ isA C.E.ty C.E.N oq = true ∧ EarlyOK C.E C.M.Sh V' C.w0 K' σ' w' (a.put o.dst c) oq (eb q.1) := by
  obtain ⟨oq, k1, k2, k3⟩ := h.p2 q hq hx
  obtain ⟨A, B, hs, hpA, hqB⟩ := hpos
  have h2 := hD.two hs hpA hqB ho k1
  have hb : eb q.1 < w.heap.size := by obtain ⟨d, t, cc, T, h1, h2, h3, h4, _⟩ := k3; exact lt_of_heap h4
  have hfree : Free K σ (eb q.1) := by obtain ⟨d, t, cc, T, h1, h2, h3, h4, _, _, h7, _⟩ := k3; exact h7
  have hvb : V (eb q.1) := by obtain ⟨d, t, cc, T, h1, h2, h3, h4, _, _, _, _, _, _, h9, _⟩ := k3; exact h9
  obtain ⟨m1, m2, m3⟩ := hS.keep _ hb hvb hfree
  refine ⟨oq, k1, k2, k3.mono hS.sub hS.ext hS.len m1 (fun _ => m2) m3 fun d hd => put_get fun e => ?_⟩
  exact h2.dst (.inr k2) d hd (List.mem_append_left _ (by rw [e]; simp))

theorem evOp_of_Np {E : Env} {type : TypeId} {op : Op} {v : AV} {σ' : List AObj} {Y : AV → List AObj → Prop} (hn : isCl op = true ∨ isN op = true) (h : nop E fr σ type op = some (v, σ')) (hY : Y v σ') : evOp E fr σ type op Y := by
  unfold nop at h
  cases hc : isCl op with
  | false => rw [hc] at h hn; exact evOp_of_N (by simpa using hn) h hY
  | true =>
    rw [hc] at h
    simp only [Option.map_eq_some_iff, Prod.mk.injEq] at h
    obtain ⟨u, h1, rfl, rfl⟩ := h
    cases op with
    | call c =>
      obtain ⟨callee, args, ats⟩ := c
      cases callee with
      | value f =>
        simp only [valP] at h1
        simp only [evOp]
        unfold callP at h1
        split at h1
        · rename_i g p q as e1 e2
          rw [e1, e2]
          simp only [callA, h1]
          exact hY
        · cases h1
      | _ => simp [isCl] at hc
    | _ => simp [isCl] at hc
/-- One that was looked at comes up. -/
theorem Inv.execN (hD : DOK C) (h : Inv C X L1 L2 eb V K σ w fr a) {p : Nat × List Nat} (hp : p ∈ L1) (hx : ¬ X p.1) {o : Oper} (ho : C.ops[p.1]? = some o) (hr : ∀ e ∈ o.after, Region.binds .any e = true → X e.on)
    {KK : Act → World → (Nat → Prop) → Prop} (hk : ∀ K' w' V' a', Inv C (fun j => X j ∨ j = p.1) L1 L2 eb V' K' σ w' fr a' → KK a' w' V') : wpOpM C.M C.ops p.1 KK a w V := by
  obtain ⟨o', k1, hn, b, v, hb, hv1, hv2, hv3⟩ := (h.p1 p hp).resolve_left hx
  rw [ho] at k1; simp at k1; subst k1
  have hpL : p ∈ C.L := by rw [h.split]; simp [hp]
  have hself := hD.self p hpL
  replace hself := (hD.selfs hpL ho).2 hn
  have hpos : ∀ q ∈ L2, ∃ A B, C.L = A ++ B ∧ p ∈ A ∧ q ∈ B := fun q hq => ⟨L1, L2, h.split, hp, hq⟩
  have hF := h.looks hD hpL hx ho hr (fun q hq _ => hpos q hq) (fun _ => hself) (fun e => by rw [hn] at e; cases e)
  have hne : ∀ q ∈ L2, p.1 ≠ q.1 := fun q hq e => by
    have hq' : C.ops[q.1]? = some o := by rw [← e]; exact ho
    exact (hD.two h.split hp hq ho hq').ne e
  have hfin : ∀ K' w' V' c, R K' σ w' → OwnV C.M.Sh V' K' σ w' → VR K' σ.length v c → StepV V K σ w V' K' σ w' → KK (a.put o.dst c) w' V' := by
    intro K' w' V' c g1 g1' g2 g3
    refine hk K' w' V' _ ⟨h.split, h.ev, fun j oj hj hX e he hbd => ?_, fun q hq => ?_, fun q hq hX => ?_, fun q hq q' hq' h1 h2 => ?_, ?_, fun t u hu => ?_, g1, g1', h.step.trans g3, ?_⟩
    · rcases hX with hX | rfl
      · exact .inl (h.closed j oj hj hX e he hbd)
      · rw [ho] at hj; simp at hj; subst hj; exact .inl (hr e he hbd)
    · rcases h.p1 q hq with m | m
      · exact .inl (.inl m)
      · exact .inr m
    · have hX' : X q.1 := hX.resolve_right fun e => hne q hq e.symm
      exact h.early hD g3 ho hq hX' (hpos q hq)
    · exact h.inj q hq q' hq' (h1.resolve_right fun e => hne q hq e.symm) (h2.resolve_right fun e => hne q' hq' e.symm)
    · rw [put_size]; exact h.fsz
    · by_cases e : o.dst = some t
      · obtain ⟨m1, m2⟩ := hv3 t e
        rw [m2] at hu; simp at hu; subst hu
        refine .inl ⟨c, ?_, g2⟩
        rw [e]; simp [Act.put, h.fsz, m1]
      · rcases h.fr t u hu with ⟨c', m1, m2⟩ | ⟨q, m1, m2, oq, m3, m4⟩ | ⟨q, m1, m2, m3⟩
        · exact .inl ⟨c', by rw [put_get e]; exact m1, m2.mono g3.ext g3.len⟩
        · refine .inr (.inl ⟨q, m1, fun hX => ?_, oq, m3, m4⟩)
          rcases hX with hX | hX
          · exact m2 hX
          · rw [hX, ho] at m3; simp at m3; subst m3; exact e m4
        · exact .inr (.inr ⟨q, m1, .inl m2, m3⟩)
    · rw [put_defers]; exact h.defers
  have hb' : wantA C.ops.toList (fr.only (o.looksAt C.ops)) o.guard = some b := by rw [← wantA_like only_like]; exact hb
  have hw := wantA_sound hF hb'
  cases b with
  | false =>
    have := hv2 rfl; subst this
    exact .unwanted ho hw fun w₁ hr => hfin K w₁ V undef (h.rel.rely h.own hr) (h.own.rely hr) undef_VR (.of_rel hr)
  | true =>
    have hv := hv1 rfl
    rw [nop_like _ (like_of (only_like (ops := C.ops)))] at hv
    refine opM_sound hD.E hD.M ho hw (evOp_of_Np (isNp_or hn) (Y := fun v' σ' => v' = v ∧ σ' = σ) hv ⟨rfl, rfl⟩) h.rel h.own hF ?_
    rintro K' σ' w' V' v' c ⟨rfl, rfl⟩ g1 g1' g2 g3
    exact hfin K' w' V' c g1 g1' g2 g3

/-- A new variable comes up early. -/
theorem Inv.execA (hD : DOK C) (h : Inv C X L1 L2 eb V K σ w fr a) {p : Nat × List Nat} (hp : p ∈ L2) (hx : ¬ X p.1) {o : Oper} (ho : C.ops[p.1]? = some o) (hA : isA C.E.ty C.E.N o = true) (hr : ∀ e ∈ o.after, Region.binds .any e = true → X e.on)
    {KK : Act → World → (Nat → Prop) → Prop} (hk : ∀ eb' w' V' a', Inv C (fun j => X j ∨ j = p.1) L1 L2 eb' V' K σ w' fr a' → KK a' w' V') : wpOpM C.M C.ops p.1 KK a w V := by
  obtain ⟨t0, d0, g1, g2, g3, g4, g5⟩ := isA_inv hA
  have hk' := kd_of_agg g3
  obtain ⟨z, hz, hzr⟩ := run_zero (K := K) (n := σ.length) hD.E.ty hk'
  obtain ⟨c1, c2⟩ := hz.cells (zero_flat hD.E.ty hk')
  have hpL : p ∈ C.L := by rw [h.split]; simp [hp]
  have hrun : ∀ w₁ : World, (execOp a.eval o).run C.E.P w₁ = .ok (.value (.pointer (some ⟨w₁.heap.size, 0, none⟩))) (w₁.alloc (.cells z.cells t0 (0, 0))) := fun w₁ => by
    simp only [execOp, g1, Instr.alloc, Sem.run_bind, hzr w₁, Result.andThen_ok, newVar, newRow]
    rfl
  have hold : ∀ q ∈ L2, X q.1 → eb q.1 < w.heap.size := fun q hq hX => by
    obtain ⟨oq, k1, k2, d, t, cc, T, k3, k4, k5, k6, _⟩ := h.p2 q hq hX
    exact lt_of_heap k6
  have hfin : ∀ w₁, Rel V w w₁ → R K σ (w₁.alloc (.cells z.cells t0 (0, 0))) → OwnV C.M.Sh (Newer V w₁.heap.size (w₁.alloc (.cells z.cells t0 (0, 0))).heap.size) K σ (w₁.alloc (.cells z.cells t0 (0, 0))) → Step K σ w₁ K σ (w₁.alloc (.cells z.cells t0 (0, 0))) →
      KK (a.put o.dst (.pointer (some ⟨w₁.heap.size, 0, none⟩))) (w₁.alloc (.cells z.cells t0 (0, 0))) (Newer V w₁.heap.size (w₁.alloc (.cells z.cells t0 (0, 0))).heap.size) := by
    intro w₁ hre r1 r1' r2
    have hR1 := h.rel.rely h.own hre
    have hsz1 : (w₁.alloc (.cells z.cells t0 (0, 0))).heap.size = w₁.heap.size + 1 := heap_alloc_size _ _
    have r3 : StepV V K σ w (Newer V w₁.heap.size (w₁.alloc (.cells z.cells t0 (0, 0))).heap.size) K σ (w₁.alloc (.cells z.cells t0 (0, 0))) := (StepV.of_rel hre).trans (.of_step r2)
    refine hk (fun j => if j = p.1 then w₁.heap.size else eb j) _ _ _ ⟨h.split, h.ev, fun j oj hj hX e he hbd => ?_, fun q hq => ?_, fun q hq hX => ?_, fun q hq q' hq' h1 h2 => ?_, ?_, fun t u hu => ?_, r1, r1', h.step.trans r3, ?_⟩
    · rcases hX with hX | rfl
      · exact .inl (h.closed j oj hj hX e he hbd)
      · rw [ho] at hj; simp at hj; subst hj; exact .inl (hr e he hbd)
    · rcases h.p1 q hq with m | m
      · exact .inl (.inl m)
      · exact .inr m
    · by_cases e : q.1 = p.1
      · rw [e, if_pos rfl]
        refine ⟨o, ho, hA, d0, t0, z.cells, t0, g2, g1, ?_, heap_alloc_new w₁ _, c1, c2, fun r o hr hb => ?_, fun pp => ?_, Nat.le_trans h.step.size hre.size, fun g cs hg e => ?_, .inr ⟨Nat.le_refl _, by rw [hsz1]; omega⟩, fun hs => ?_⟩
        · rw [g2]; simp [Act.put, h.fsz, g4]
        · exact absurd ((hR1.obj r o hr).blk_lt hb) (by omega)
        · cases hkk : K.S w₁.heap.size pp with
          | none => rfl
          | some v => have := hR1.lt hkk; omega
        · have := lt_of_heap (hR1.lay g cs hg).1.choose_spec.choose_spec; omega
        · have := h.own.sh _ hs; have := hre.size; omega
      · rw [if_neg e]
        have hX' : X q.1 := hX.resolve_right e
        obtain ⟨oq, k1, k2, k3⟩ := h.p2 q hq hX'
        have hb := hold q hq hX'
        have hfree : Free K σ (eb q.1) := by obtain ⟨d, t, cc, T, h1, h2, h3, h4, _, _, h7, _⟩ := k3; exact h7
        have hvb : V (eb q.1) := by obtain ⟨d, t, cc, T, h1, h2, h3, h4, _, _, _, _, _, _, h9, _⟩ := k3; exact h9
        obtain ⟨m1, m2, m3⟩ := r3.keep _ hb hvb hfree
        refine ⟨oq, k1, k2, k3.mono r3.sub r3.ext r3.len m1 (fun _ => m2) m3 fun d hd => put_get fun e' => ?_⟩
        have hqL : q ∈ C.L := by rw [h.split]; simp [hq]
        rcases order_of hpL hqL with e2 | ⟨A, B, hs, hqA, hpB⟩ | ⟨A, B, hs, hpA, hqB⟩
        · exact e (by rw [e2])
        · exact (hD.two hs hqA hpB k1 ho).dst (.inr hA) d e' (List.mem_append_left _ (by rw [hd]; simp))
        · exact (hD.two hs hpA hqB ho k1).dst (.inr k2) d hd (List.mem_append_left _ (by rw [e']; simp))
    · by_cases e : q.1 = p.1 <;> by_cases e' : q'.1 = p.1
      · intro _; rw [e, e']
      · have := hold q' hq' (h2.resolve_right e'); have := hre.size
        rw [if_pos e, if_neg e']; intro e3; omega
      · have := hold q hq (h1.resolve_right e); have := hre.size
        rw [if_neg e, if_pos e']; intro e3; omega
      · rw [if_neg e, if_neg e']; exact h.inj q hq q' hq' (h1.resolve_right e) (h2.resolve_right e')
    · rw [put_size]; exact h.fsz
    · by_cases e : o.dst = some t
      · exact .inr (.inr ⟨p, hp, .inr rfl, o, ho, e⟩)
      · rcases h.fr t u hu with ⟨c', m1, m2⟩ | ⟨q, m1, m2, oq, m3, m4⟩ | ⟨q, m1, m2, m3⟩
        · exact .inl ⟨c', by rw [put_get e]; exact m1, m2⟩
        · refine .inr (.inl ⟨q, m1, fun hX => ?_, oq, m3, m4⟩)
          rcases hX with hX | hX
          · exact m2 hX
          · rw [hX, ho] at m3; simp at m3; subst m3; exact e m4
        · exact .inr (.inr ⟨q, m1, .inl m2, m3⟩)
    · rw [put_defers]; exact h.defers
  intro b rest k cs Post hp
  refine J_op0 (X := fun c K' σ' w₁ w' => K' = K ∧ σ' = σ ∧ w' = w₁.alloc (.cells z.cells t0 (0, 0)) ∧ c = .pointer (some ⟨w₁.heap.size, 0, none⟩) ∧ Step K σ w₁ K σ (w₁.alloc (.cells z.cells t0 (0, 0)))) h.rel h.own ho (by unfold Region.wanted; rw [g5]) (by rw [g1]; intro c hc; cases hc) ?_ (fun w₁ hR1 => ?_) ?_
  · obtain ⟨dst, op, type, pos, after, guard⟩ := o
    simp only at g1; subst g1
    exact Tm_val Tm_alloc
  · obtain ⟨r1, r2⟩ := hR1.newS (.cells z.cells t0 (0, 0)) K (.refl _ _) rfl (fun b p v hv => .inl hv)
    exact ⟨_, K, σ, _, .inl (hrun w₁), r1, r2, rfl, rfl, rfl, rfl, r2⟩
  · rintro c K' σ' w₁ w' hr r1 r1' r3 ⟨rfl, rfl, rfl, rfl, r2⟩
    exact hp _ _ _ (hfin w₁ hr r1 r1' r2)
end Go.Mu
set_option linter.unusedSimpArgs false
set_option linter.unusedVariables false
namespace Go.Mu
open Go Go.Conc

variable {ro : Option Nat} {n : Nat}
variable {C : Ctx} {X : Nat → Prop} {L1 L2 : List (Nat × List Nat)} {eb : Nat → Nat} {V : Nat → Prop} {K : Kr} {σ : List AObj} {w : World} {fr : Fr} {a : Act}

theorem recheck_mem {E : Env} {all : List Oper} : ∀ {rs : List Nat} {r : Nat}, recheck E all fr σ rs → r ∈ rs → reOK E all fr σ (nthO all r)
  | [], _, _, h => by cases h
  | x :: rs, r, h, hr => by
    rcases List.mem_cons.1 hr with rfl | hr
    · exact h.1
    · exact recheck_mem h.2 hr

/-- One that turns things comes up. -/
theorem Inv.execE (hD : DOK C) {p : Nat × List Nat} (h : Inv C X L1 (p :: L2) eb V K σ w fr a) (hx : ¬ X p.1) {o : Oper} (ho : C.ops[p.1]? = some o) (hn : isNp p o = false) (hA : isA C.E.ty C.E.N o = false) (hr : ∀ e ∈ o.after, Region.binds .any e = true → X e.on)
    {KK : Act → World → (Nat → Prop) → Prop} (hk : ∀ V' K' σ' w' fr' a', Inv C (fun j => X j ∨ j = p.1) (L1 ++ [p]) L2 eb V' K' σ' w' fr' a' → KK a' w' V') : wpOpM C.M C.ops p.1 KK a w V := by
  have hpL : p ∈ C.L := by rw [h.split]; simp
  have hs2 : C.L = (L1 ++ [p]) ++ L2 := by rw [h.split]; simp
  have hpos : ∀ q ∈ L2, ∃ A B, C.L = A ++ B ∧ p ∈ A ∧ q ∈ B := fun q hq => ⟨L1 ++ [p], L2, hs2, by simp, hq⟩
  have hne : ∀ q ∈ L2, p.1 ≠ q.1 := fun q hq e => by
    have hq' : C.ops[q.1]? = some o := by rw [← e]; exact ho
    exact (hD.two hs2 (by simp) hq ho hq').ne e
  have hF := h.looks hD hpL hx ho hr (fun q hq hX => by
    rcases List.mem_cons.1 hq with rfl | hq
    · exact absurd hX hx
    · exact hpos q hq) (fun e => by rw [hn] at e; cases e) (fun _ q hq e => by
      subst e
      exact (hD.two h.split hq (List.mem_cons_self ..) ho ho).ne rfl)
  have hev := evD_E hn (hD.selfs hpL ho).1 (nthO_ops ho) h.ev
  obtain ⟨i, rs⟩ := p
  simp only [evDo] at hev
  have hfin : ∀ K' σ' w' V' v c, evNextD C.E C.ops.toList rs L2 o.dst fr C.Q v σ' → R K' σ' w' → OwnV C.M.Sh V' K' σ' w' → VR K' σ'.length v c → StepV V K σ w V' K' σ' w' → KK (a.put o.dst c) w' V' := by
    intro K' σ' w' V' v c g0 g1 g1' g2 g3
    obtain ⟨fr', hfr, hrec, hev', hN⟩ : ∃ fr', (fr' = match o.dst with | none => fr | some d => fr.put d v) ∧ recheck C.E C.ops.toList fr' σ' rs ∧ evD C.E C.ops.toList L2 fr' σ' C.Q ∧ ∀ d, o.dst = some d → d < C.E.N := by
      unfold evNextD at g0
      cases hd : o.dst with
      | none => rw [hd] at g0; exact ⟨_, rfl, g0.1, g0.2, fun d h => by cases h⟩
      | some d => rw [hd] at g0; exact ⟨_, rfl, g0.2.1, g0.2.2, fun d' h => by simp at h; subst h; exact g0.1⟩
    have hget : ∀ t, o.dst ≠ some t → fr'.get t = fr.get t := fun t ht => by
      subst hfr
      cases hd : o.dst with
      | none => rfl
      | some d =>
        simp only
        rw [Fr.get_put, if_neg (fun e => ht (by rw [hd, e]))]
    refine hk V' K' σ' w' fr' _ ⟨hs2, hev', fun j oj hj hX e he hbd => ?_, fun q hq => ?_, fun q hq hX => ?_, fun q hq q' hq' h1 h2 => ?_, ?_, fun t u hu => ?_, g1, g1', h.step.trans g3, ?_⟩
    · rcases hX with hX | rfl
      · exact .inl (h.closed j oj hj hX e he hbd)
      · simp only at ho; rw [ho] at hj; simp at hj; subst hj; exact .inl (hr e he hbd)
    · rcases List.mem_append.1 hq with hq | hq
      · rcases h.p1 q hq with m | ⟨oq, m1, m2, b, u, l1, l2, l3, l4⟩
        · exact .inl (.inl m)
        · have h2 := hD.two h.split hq (q := (i, rs)) (by simp) m1 ho
          rcases h2.eff with m | m | m | m | ⟨m3, m4⟩
          · rw [hn] at m; cases m
          · rw [hA] at m; cases m
          · rw [m2] at m; cases m
          · exact .inl (.inl (pred_in hD.masks h.closed q.1 i o ho hr m))
          · have hlk : ∀ t ∈ oq.looksAt C.ops, fr.get t = fr'.get t := fun t ht => (hget t fun e => m3 t e (List.mem_append_right _ ht)).symm
            have hdst : ∀ d, oq.dst = some d → fr'.get d = fr.get d := fun d hd => hget d fun e => m3 d e (List.mem_append_left _ (by rw [hd]; simp))
            refine .inr ⟨oq, m1, m2, b, ?_⟩
            have hw' : wantA C.ops.toList fr' oq.guard = some b := by rw [← wantA_like hlk]; exact l1
            cases hl : isL oq.op with
            | false =>
              refine ⟨u, hw', fun hb => ?_, l3, fun d hd => ⟨(l4 d hd).1, by rw [hdst d hd]; exact (l4 d hd).2⟩⟩
              rw [← nop_like _ (like_of hlk)]
              exact nop_pure (isNp_or m2) hl (l2 hb)
            | true =>
              have hre := recheck_mem hrec (m4 hl)
              rw [nthO_ops m1] at hre
              simp only [reOK, hw'] at hre
              cases b with
              | false =>
                refine ⟨u, hw', fun hb => (by cases hb), l3, fun d hd => ⟨(l4 d hd).1, by rw [hdst d hd]; exact (l4 d hd).2⟩⟩
              | true =>
                simp only at hre
                cases hh : hop C.E.ty fr' σ' oq.op with
                | none => rw [hh] at hre; exact hre.elim
                | some q2 =>
                  obtain ⟨v', σx⟩ := q2
                  rw [hh] at hre
                  have ha : nop C.E fr' σ' oq.type oq.op = some (v', σx) := by rw [nop_load hl]; exact hh
                  have e := nop_N (isNp_or m2) ha
                  refine ⟨v', hw', fun _ => by rw [ha, e], fun hb => (by cases hb), fun d hd => ⟨(l4 d hd).1, ?_⟩⟩
                  rw [hd] at hre
                  exact hre
      · simp at hq; subst hq; exact .inl (.inr rfl)
    · have hX' : X q.1 := hX.resolve_right fun e => hne q hq e.symm
      exact h.early hD g3 ho (List.mem_cons_of_mem _ hq) hX' (hpos q hq)
    · exact h.inj q (by simp [hq]) q' (by simp [hq']) (h1.resolve_right fun e => hne q hq e.symm) (h2.resolve_right fun e => hne q' hq' e.symm)
    · rw [put_size]; exact h.fsz
    · by_cases e : o.dst = some t
      · refine .inl ⟨c, ?_, ?_⟩
        · rw [e]; simp [Act.put, h.fsz, hN t e]
        · subst hfr
          rw [e] at hu
          simp only [Fr.get_put, if_true, Option.some.injEq] at hu
          subst hu; exact g2
      · rw [hget t e] at hu
        rcases h.fr t u hu with ⟨c', m1, m2⟩ | ⟨q, m1, m2, oq, m3, m4⟩ | ⟨q, m1, m2, m3⟩
        · exact .inl ⟨c', by rw [put_get e]; exact m1, m2.mono g3.ext g3.len⟩
        · refine .inr (.inl ⟨q, by simp [m1], fun hX => ?_, oq, m3, m4⟩)
          rcases hX with hX | hX
          · exact m2 hX
          · simp only at ho; rw [hX, ho] at m3; simp at m3; subst m3; exact e m4
        · rcases List.mem_cons.1 m1 with rfl | m1
          · exact absurd m2 hx
          · exact .inr (.inr ⟨q, m1, .inl m2, m3⟩)
    · rw [put_defers]; exact h.defers
  split at hev
  · exact hev.elim
  · rename_i b hb
    have hb' : wantA C.ops.toList (fr.only (o.looksAt C.ops)) o.guard = some b := by rw [← wantA_like only_like]; exact hb
    have hw := wantA_sound hF hb'
    cases b with
    | false => exact .unwanted ho hw fun w₁ hre => hfin K σ w₁ V _ undef (hev.2 rfl) (h.rel.rely h.own hre) (h.own.rely hre) undef_VR (.of_rel hre)
    | true =>
      have hv := hev.1 rfl
      rw [evOp_like _ (like_of (only_like (ops := C.ops)))] at hv
      exact opM_sound hD.E hD.M ho hw hv h.rel h.own hF fun K' σ' w' V' v c g0 g1 g1' g2 g3 => hfin K' σ' w' V' v c g0 g1 g1' g2 g3

theorem Inv.done (hD : DOK C) (h : Inv C X L1 L2 eb V K σ w fr a) (hall : ∀ i, i < C.ops.size → X i) : Done C.E C.M.Sh C.V0 C.K0 C.σ0 C.w0 C.ds C.Q a w V := by
  have hL : ∀ p ∈ C.L, X p.1 := fun p hp => by
    have h1 := hD.self p hp
    unfold selfOK at h1
    cases ho : C.ops[p.1]? with
    | none => rw [ho] at h1; cases h1
    | some o => exact hall _ (Array.getElem?_eq_some_iff.1 ho).1
  obtain ⟨K', σ', fr', h1⟩ := Inv.advTo hD (M := L2) (L2 := []) (by simpa using h) (fun p hp => .inl (hL p (by rw [h.split]; simp [hp])))
  refine ⟨K', σ', fr', h1.ev, h1.rel, h1.own, ⟨h1.fsz, fun t v hv => ?_⟩, h1.step, h1.defers⟩
  rcases h1.fr t v hv with m | ⟨q, m1, m2, _⟩ | ⟨q, m1, _⟩
  · exact m
  · exact absurd (hL q (by rw [h1.split]; simpa using m1)) m2
  · cases m1

/-- How many have not come up. -/
def left (size : Nat) (listed : Array Bool) : Nat := ((List.range size).filter fun i => listed.getD i true == false).length
theorem filter_lt {α : Type} {p q : α → Bool} (hpq : ∀ x, q x = true → p x = true) : ∀ {l : List α} {y : α}, y ∈ l → p y = true → q y = false → (l.filter q).length < (l.filter p).length
  | x :: l, y, hy, h1, h2 => by
    have hle : ∀ l : List α, (l.filter q).length ≤ (l.filter p).length := by
      intro l
      induction l with
      | nil => simp
      | cons z l ih =>
        by_cases hz : q z = true
        · rw [List.filter_cons_of_pos hz, List.filter_cons_of_pos (hpq z hz)]; simp; exact ih
        · rw [List.filter_cons_of_neg hz]
          by_cases hz' : p z = true
          · rw [List.filter_cons_of_pos hz']; simp; omega
          · rw [List.filter_cons_of_neg hz']; exact ih
    rcases List.mem_cons.1 hy with rfl | hy
    · rw [List.filter_cons_of_pos h1, List.filter_cons_of_neg (by rw [h2]; simp)]
      have := hle l; simp; omega
    · have ih := filter_lt hpq hy h1 h2
      by_cases hz : q x = true
      · rw [List.filter_cons_of_pos hz, List.filter_cons_of_pos (hpq x hz)]; simp; exact ih
      · rw [List.filter_cons_of_neg hz]
        by_cases hz' : p x = true
        · rw [List.filter_cons_of_pos hz']; simp; omega
        · rw [List.filter_cons_of_neg hz']; exact ih

def wpAnyM {P : Program} (M : RMode P) (ops : Array Oper) (Q : Act → World → (Nat → Prop) → Prop) : Nat → Array Bool → Act → World → (Nat → Prop) → Prop
  | 0, listed, a, w, V => Region.ready .any ops listed = [] ∧ Q a w V
  | fuel + 1, listed, a, w, V => (Region.ready .any ops listed = [] → Q a w V) ∧ ∀ i ∈ Region.ready .any ops listed, wpOpM M ops i (wpAnyM M ops Q fuel (listed.setIfInBounds i true)) a w V
theorem wpAnyM_sound {P : Program} {M : RMode P} {ops : Array Oper} {Q : Act → World → (Nat → Prop) → Prop} : ∀ (fuel t : Nat) (listed : Array Bool) (a : Act) (w : World) (V : Nat → Prop), wpAnyM M ops Q fuel listed a w V →
    wpOpsM M ops Q (Region.linearise.go .any ops fuel t listed []) a w V := by
  intro fuel
  induction fuel with
  | zero => intro t listed a w V h; simpa [Region.linearise.go, wpOpsM] using h.2
  | succ fuel ih =>
    intro t listed a w V h
    obtain ⟨h₀, h₁⟩ := h
    simp only [Region.linearise.go]
    change wpOpsM M ops Q (match (Region.ready .any ops listed)[t % (Region.ready .any ops listed).length]? with
      | some i => Region.linearise.go .any ops fuel (t / (Region.ready .any ops listed).length) (listed.setIfInBounds i true) [i]
      | none => [].reverse) a w V
    cases hi : (Region.ready .any ops listed)[t % (Region.ready .any ops listed).length]? with
    | none =>
      have hnil : Region.ready .any ops listed = [] := by
        cases hr : Region.ready .any ops listed with
        | nil => rfl
        | cons x xs =>
          rw [hr] at hi
          have hlt : t % (x :: xs).length < (x :: xs).length := Nat.mod_lt _ (by simp)
          simp at hi
          simp at hlt
          omega
      simpa [wpOpsM] using h₀ hnil
    | some i =>
      simp only []
      rw [linearise_go_acc, List.reverse_singleton, List.singleton_append]
      show wpOpM M ops i _ a w V
      exact (h₁ i (List.mem_of_getElem? hi)).mono fun a w V => ih _ _ a w V

theorem anyD (hD : DOK C) : ∀ (fuel : Nat) (listed : Array Bool) (L1 L2 : List (Nat × List Nat)) (eb : Nat → Nat) (V : Nat → Prop) (K : Kr) (σ : List AObj) (w : World) (fr : Fr) (a : Act), listed.size = C.ops.size → left C.ops.size listed ≤ fuel →
    Inv C (fun j => listed.getD j false = true) L1 L2 eb V K σ w fr a → wpAnyM C.M C.ops (Done C.E C.M.Sh C.V0 C.K0 C.σ0 C.w0 C.ds C.Q) fuel listed a w V := by
  have hget : ∀ (listed : Array Bool) (j : Nat), listed.size = C.ops.size → j < C.ops.size → listed.getD j true = listed.getD j false := fun listed j hs hj => by
    have : j < listed.size := by omega
    simp [Array.getD, this]
  have hrdy : ∀ (listed : Array Bool), listed.size = C.ops.size → Region.ready .any C.ops listed = [] → ∀ i, i < C.ops.size → listed.getD i false = true := by
    intro listed hs hr i
    induction i using Nat.strongRecOn with
    | _ i ih =>
      intro hi
      cases hc : listed.getD i false with
      | true => rfl
      | false =>
        exfalso
        have ho : C.ops[i]? = some C.ops[i] := Array.getElem?_eq_getElem hi
        have h1 := List.all_eq_true.1 hD.masks i (List.mem_range.2 hi)
        simp only [ho, Bool.and_eq_true, beq_iff_eq, List.all_eq_true, Bool.or_eq_true, Bool.not_eq_true', decide_eq_true_eq] at h1
        have hmem : i ∈ Region.ready .any C.ops listed := mem_ready.2 ⟨by rw [hget listed i hs hi]; exact hc, _, ho, fun e he hb => by
          have hlt : e.on < i := by
            rcases h1.2 e (by simpa using he) with h5 | h5
            · rw [hb] at h5; cases h5
            · exact h5
          exact ih e.on hlt (by omega)⟩
        rw [hr] at hmem; cases hmem
  have hsome : ∀ (listed : Array Bool), left C.ops.size listed = 0 → listed.size = C.ops.size → ∀ i, i < C.ops.size → listed.getD i false = true := by
    intro listed h0 hs i hi
    cases hc : listed.getD i false with
    | true => rfl
    | false =>
      unfold left at h0
      have hnil := List.length_eq_zero_iff.1 h0
      have : i ∈ ((List.range C.ops.size).filter fun i => listed.getD i true == false) := List.mem_filter.2 ⟨List.mem_range.2 hi, by rw [hget listed i hs hi, hc]; rfl⟩
      rw [hnil] at this; cases this
  intro fuel
  induction fuel with
  | zero =>
    intro listed L1 L2 eb V K σ w fr a hs hl h
    have hall := hsome listed (by omega) hs
    refine ⟨?_, h.done hD hall⟩
    apply List.eq_nil_iff_forall_not_mem.2
    intro i hi
    obtain ⟨h1, o, ho, _⟩ := mem_ready.1 hi
    have hlt := (Array.getElem?_eq_some_iff.1 ho).1
    rw [hget listed i hs hlt, hall i hlt] at h1; cases h1
  | succ fuel ih =>
    intro listed L1 L2 eb V K σ w fr a hs hl h
    refine ⟨fun hr => h.done hD (hrdy listed hs hr), fun i hi => ?_⟩
    obtain ⟨h1, o, ho, hdeps⟩ := mem_ready.1 hi
    have hlt := (Array.getElem?_eq_some_iff.1 ho).1
    rw [hget listed i hs hlt] at h1
    have hx : ¬ listed.getD i false = true := by rw [h1]; simp
    -- the set grows
    have hset : (fun j => (listed.setIfInBounds i true).getD j false = true) = fun j => listed.getD j false = true ∨ j = i := by
      funext j
      apply propext
      by_cases e : i = j
      · subst e; simp [hs, hlt]
      · rw [getD_set_ne false e]
        constructor
        · intro h; exact .inl h
        · rintro (h | h)
          · exact h
          · exact absurd h.symm e
    have hleft : left C.ops.size (listed.setIfInBounds i true) ≤ fuel := by
      have : left C.ops.size (listed.setIfInBounds i true) < left C.ops.size listed := by
        refine filter_lt (fun x hx => ?_) (List.mem_range.2 hlt) (by rw [hget listed i hs hlt, h1]; rfl) ?_
        · by_cases e : i = x
          · subst e; simp [hs, hlt] at hx
          · rw [getD_set_ne true e] at hx; exact hx
        · simp [hs, hlt]
      omega
    have hcont : ∀ L1 L2 eb V' K' σ' w' fr' a', Inv C (fun j => listed.getD j false = true ∨ j = i) L1 L2 eb V' K' σ' w' fr' a' → wpAnyM C.M C.ops (Done C.E C.M.Sh C.V0 C.K0 C.σ0 C.w0 C.ds C.Q) fuel (listed.setIfInBounds i true) a' w' V' := by
      intro L1 L2 eb V' K' σ' w' fr' a' h'
      exact ih _ L1 L2 eb V' K' σ' w' fr' a' (by simpa using hs) hleft (by rw [hset]; exact h')
    obtain ⟨p, hpL, rfl⟩ := hD.all i hlt
    have hpL' := hpL
    rw [h.split] at hpL'
    rcases List.mem_append.1 hpL' with hp | hp
    · exact h.execN hD hp hx ho hdeps fun K' w' V' a' h' => hcont _ _ _ _ _ _ _ _ _ h'
    · cases hA : isA C.E.ty C.E.N o with
      | true => exact h.execA hD hp hx ho hA hdeps fun eb' w' V' a' h' => hcont _ _ _ _ _ _ _ _ _ h'
      | false =>
        obtain ⟨M, M', rfl⟩ := List.append_of_mem hp
        obtain ⟨K1, σ1, fr1, h2⟩ := Inv.advTo hD (M := M) (L2 := p :: M') h (fun q hq => by
          have hqL : q ∈ C.L := by rw [h.split]; simp [hq]
          have hq1 := hD.self q hqL
          unfold selfOK at hq1
          cases hoq : C.ops[q.1]? with
          | none => rw [hoq] at hq1; cases hq1
          | some oq =>
            have hs3 : C.L = (L1 ++ M) ++ (p :: M') := by rw [h.split]; simp
            rcases (hD.two hs3 (p := q) (q := p) (by simp [hq]) (by simp) hoq ho).dep with m | m | m
            · rw [hA] at m; cases m
            · exact .inr ⟨oq, rfl, m⟩
            · exact .inl (pred_in hD.masks h.closed q.1 p.1 o ho hdeps m))
        cases hn : isNp p o with
        | true =>
          obtain ⟨fr2, h3⟩ := h2.advN hD hx ho hn
          exact h3.execN hD (by simp) hx ho hdeps fun K' w' V' a' h' => hcont _ _ _ _ _ _ _ _ _ h'
        | false => exact h2.execE hD hx ho hn hA hdeps fun V' K' σ' w' fr' a' h' => hcont _ _ _ _ _ _ _ _ _ h'

/-- A STATEMENT WHOSE ORDER IS DRAWN. -/
theorem ARun.drawn {E : Env} (hE : EnvOK E) {id : Nat} {ops : Array Oper} (c : List Nat × List (Nat × List Nat)) (hL : drawOK E.ty E.N ops c = true) {k : List Item} {fr : Fr} {σ : List AObj} {Q : Option Code → Fr → List AObj → Prop}
    (h : evD E ops.toList c.2 fr σ fun fr σ => ARun E ro k fr σ Q) : ARun E ro (.code (.region id ops true) :: k) fr σ Q := by
  intro M hM K w V a b cs hb hR hO hF
  refine M.step rfl fun w₁ hr => ⟨_, _, _, show stepG E.P M.main (G (b.atR a (.code (.region id ops true) :: k)) cs) w₁ = .go (G (b.atR a (.inRegion ops (Region.schedule (E.P.follows .mixedOrders) ops (w₁.tape w₁.drawn (.order b.fn id))) :: k)) cs) { w₁ with drawn := w₁.drawn + 1 } by
    simp [G, stepG, stepG.exec, Frame.atR, choose, Sem.run, Question.forced, Question.cut], .drew _ _ _, ?_⟩
  let w1 : World := { w₁ with drawn := w₁.drawn + 1 }
  have hr1 : Rel V w w1 := ⟨hr.size, hr.keep, hr.os, hr.tape, hr.output⟩
  have hn : Newer V w₁.heap.size w1.heap.size = V := newer_same
  rw [hn]
  have hR1 : R K σ w1 := hR.rely hO hr1
  have hO1 : OwnV M.Sh V K σ w1 := hO.rely hr1
  let C : Ctx := ⟨E, M, V, ops, c.1, c.2, K, σ, w1, a.defers, fun fr σ => ARun E ro k fr σ Q⟩
  have hD : DOK C := DOK.of (C := C) hE hM hL
  have hI : Inv C (fun j => (Array.replicate ops.size false).getD j false = true) [] c.2 (fun _ => 0) V K σ w1 fr a := by
    have hno : ∀ j, ¬ ((Array.replicate ops.size false).getD j false = true) := fun j h => by
      by_cases hj : j < ops.size <;> simp [hj, Array.getElem?_replicate] at h
    refine ⟨rfl, h, fun j o _ hX => absurd hX (hno j), fun p hp => (by cases hp), fun p _ hX => absurd hX (hno _), fun p _ q _ hX => absurd hX (hno _), hF.1, fun t v hv => .inl (hF.2 t v hv), hR1, hO1, .refl _ _ _ _, rfl⟩
  have hw := anyD hD ops.size (Array.replicate ops.size false) [] c.2 (fun _ => 0) V K σ w1 fr a (by simp; rfl) (by
    unfold left
    exact Nat.le_trans (List.length_filter_le _ _) (by simp; exact Nat.le_refl _)) hI
  have hw2 := wpAnyM_sound _ (w₁.tape w₁.drawn (.order b.fn id)) _ _ _ _ hw
  have hsch : Region.schedule (E.P.follows .mixedOrders) ops (w₁.tape w₁.drawn (.order b.fn id)) = Region.linearise.go .any ops ops.size (w₁.tape w₁.drawn (.order b.fn id)) (Array.replicate ops.size false) [] := by
    simp only [Region.schedule, hE.mixed, Bool.true_or, if_true]
    rfl
  rw [hsch]
  refine wpOpsM.run ?_ _ _ _ _ hw2
  rintro a' w' V' ⟨K', σ', fr', hq, h2, h3, h4, h5, h6⟩
  refine M.step rfl fun w₂ hr2 => ⟨_, _, _, show stepG E.P M.main (G (b.atR a' (.inRegion ops [] :: k)) cs) w₂ = .go (G (b.atR a' k) cs) w₂ by simp [G, stepG, stepG.exec, Frame.atR], .idle _ _ _, ?_⟩
  rw [newer_same]
  exact ARun.go (hq M hM) (hb.mono h5.ext h5.len) (h2.rely h3 hr2) (h3.rely hr2) h4 (((StepV.of_rel hr1).trans h5).trans (.of_rel hr2)) h6
end Go.Mu
