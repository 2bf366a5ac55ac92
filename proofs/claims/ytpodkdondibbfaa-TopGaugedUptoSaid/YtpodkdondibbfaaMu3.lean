/- Part T of the abstract layer: statements whose order is drawn: the proof. -/
import Derived.Test.YtpodkdondibbfaaMu2
import Derived.RangeFuncIn
import Derived.Laws.BitsLemmas
set_option linter.unusedSimpArgs false
set_option linter.unusedVariables false
namespace Go.Mu
open Go

variable {E : Env} {ro : Option Nat} {n : Nat}

/-- What is settled of a statement at hand. -/
structure Ctx where
  E : Env
  ops : Array Oper
  m : List Nat
  L : List (Nat × List Nat)
  K0 : Kr
  σ0 : List AObj
  w0 : World
  ds : List Deferred
  Q : Fr → List AObj → Prop

def PendOK (E : Env) (ops : Array Oper) (fr : Fr) (σ : List AObj) (o : Oper) : Prop :=
  ∃ b v, wantA ops.toList fr o.guard = some b ∧ (b = true → nop E fr σ o.type o.op = some (v, σ)) ∧ (b = false → v = .tup []) ∧ ∀ d, o.dst = some d → d < E.N ∧ fr.get d = some v
def EarlyOK (E : Env) (w0 : World) (K : Kr) (σ : List AObj) (w : World) (a : Act) (o : Oper) (b : Nat) : Prop :=
  ∃ d t cc T, o.dst = some d ∧ o.op = .alloc t ∧ a.tmps[d]? = some (.pointer (some ⟨b, 0, none⟩)) ∧ w.heap[b]? = some (.cells cc T (0, 0)) ∧ VRs K σ.length (E.ty t).zero.cells cc.toList ∧ (∀ c ∈ cc.toList, c.oneCell' = true) ∧
    Free K σ b ∧ (∀ p, K.S b p = none) ∧ w0.heap.size ≤ b ∧ ∀ g cs, layV g = some cs → g ≠ b

structure Inv (C : Ctx) (X : Nat → Prop) (L1 L2 : List (Nat × List Nat)) (eb : Nat → Nat) (K : Kr) (σ : List AObj) (w : World) (fr : Fr) (a : Act) : Prop where
  split : C.L = L1 ++ L2
  ev : evD C.E C.ops.toList L2 fr σ C.Q
  closed : ∀ j o, C.ops[j]? = some o → X j → ∀ e ∈ o.after, Region.binds .any e = true → X e.on
  p1 : ∀ p ∈ L1, X p.1 ∨ ∃ o, C.ops[p.1]? = some o ∧ isNp p o = true ∧ PendOK C.E C.ops fr σ o
  p2 : ∀ p ∈ L2, X p.1 → ∃ o, C.ops[p.1]? = some o ∧ isA C.E.ty C.E.N o = true ∧ EarlyOK C.E C.w0 K σ w a o (eb p.1)
  inj : ∀ p ∈ L2, ∀ q ∈ L2, X p.1 → X q.1 → eb p.1 = eb q.1 → p.1 = q.1
  fsz : a.tmps.size = C.E.N
  fr : ∀ t v, fr.get t = some v → (∃ c, a.tmps[t]? = some c ∧ VR K σ.length v c) ∨
    (∃ p ∈ L1, ¬ X p.1 ∧ ∃ o, C.ops[p.1]? = some o ∧ o.dst = some t) ∨ (∃ p ∈ L2, X p.1 ∧ ∃ o, C.ops[p.1]? = some o ∧ o.dst = some t)
  rel : R K σ w
  step : Step C.K0 C.σ0 C.w0 K σ w
  defers : a.defers = C.ds

variable {C : Ctx} {X : Nat → Prop} {L1 L2 : List (Nat × List Nat)} {eb : Nat → Nat} {K : Kr} {σ : List AObj} {w : World} {fr : Fr} {a : Act}

structure DOK (C : Ctx) : Prop where
  E : EnvOK C.E
  masks : masksOK C.m C.ops = true
  all : ∀ i, i < C.ops.size → ∃ p ∈ C.L, p.1 = i
  prs : pairs (chk C.E.ty C.E.N C.m C.ops) C.L = true
  self : ∀ p ∈ C.L, selfOK C.ops p = true

theorem DOK.of (hE : EnvOK C.E) (h : drawOK C.E.ty C.E.N C.ops (C.m, C.L) = true) : DOK C := by
  simp only [drawOK, Bool.and_eq_true] at h
  obtain ⟨⟨⟨h1, h2⟩, h3⟩, h4⟩ := h
  refine ⟨hE, h1, fun i hi => ?_, h3, fun p hp => List.all_eq_true.1 h4 p hp⟩
  have := List.all_eq_true.1 h2 i (List.mem_range.2 hi)
  obtain ⟨p, hp, he⟩ := List.any_eq_true.1 this
  exact ⟨p, hp, by simpa using he⟩

theorem DOK.selfs (h : DOK C) {p : Nat × List Nat} (hp : p ∈ C.L) {o : Oper} (ho : C.ops[p.1]? = some o) : (p.2 = [p.1] → isCl o.op = true) ∧ (isNp p o = true → ∀ d, o.dst = some d → d ∉ o.looksAt C.ops) := by
  have hs := h.self p hp
  simp only [selfOK, ho, Bool.and_eq_true, Bool.or_eq_true, Bool.not_eq_true', beq_eq_false_iff_ne, ne_eq, List.all_eq_true, Option.mem_toList, List.contains_eq_mem, decide_eq_false_iff_not] at hs
  refine ⟨fun e => hs.1.resolve_left fun h => h e, fun hn => ?_⟩
  rcases hs.2 with h | h
  · rw [hn] at h; cases h
  · exact h
/-- What is known of two operations, of which the list has one before the other. -/
structure Two (C : Ctx) (p q : Nat × List Nat) (o o' : Oper) : Prop where
  ne : p.1 ≠ q.1
  back : pred C.m p.1 q.1 = false
  dep : isA C.E.ty C.E.N o' = true ∨ isNp p o = true ∨ pred C.m q.1 p.1 = true
  dst : isNp q o' = true ∨ isA C.E.ty C.E.N o' = true → ∀ d, o'.dst = some d → d ∉ nms C.ops o
  eff : isNp q o' = true ∨ isA C.E.ty C.E.N o' = true ∨ isNp p o = false ∨ pred C.m q.1 p.1 = true ∨ ((∀ d, o'.dst = some d → d ∉ nms C.ops o) ∧ (isL o.op = true → p.1 ∈ q.2))
  reads : isNp p o = true → pred C.m q.1 p.1 = true ∨ ∀ d, o.dst = some d → d ∉ nms C.ops o'

theorem DOK.two (h : DOK C) (hs : C.L = L1 ++ L2) {p q : Nat × List Nat} (hp : p ∈ L1) (hq : q ∈ L2) {o o' : Oper} (ho : C.ops[p.1]? = some o) (ho' : C.ops[q.1]? = some o') : Two C p q o o' := by
  have h1 := pairs_spec (hs ▸ h.prs) p hp q hq
  simp only [chk, ho, ho', Bool.and_eq_true, Bool.or_eq_true, Bool.not_eq_true', bne_iff_ne, ne_eq, List.all_eq_true, Option.mem_toList, List.contains_eq_mem, decide_eq_false_iff_not, decide_eq_true_eq] at h1
  obtain ⟨⟨⟨⟨⟨h1, h2⟩, h3⟩, h4⟩, h5⟩, h6⟩ := h1
  refine ⟨h1, h2, by rcases h3 with (h3 | h3) | h3 <;> simp [h3], fun hk d hd => ?_, ?_, fun hk => ?_⟩
  · rcases h4 with h4 | h4
    · simp only [Bool.or_eq_false_iff] at h4
      rcases hk with hk | hk
      · rw [h4.1] at hk; cases hk
      · rw [h4.2] at hk; cases hk
    · exact h4 d hd
  · rcases h5 with (((h5 | h5) | h5) | h5) | h5
    · exact .inl h5
    · exact .inr (.inl h5)
    · exact .inr (.inr (.inl h5))
    · exact .inr (.inr (.inr (.inl h5)))
    · refine .inr (.inr (.inr (.inr ⟨fun d hd => h5.1 d hd, fun hl => ?_⟩)))
      rcases h5.2 with h7 | h7
      · rw [hl] at h7; cases h7
      · exact h7
  · rcases h6 with (h6 | h6) | h6
    · rw [hk] at h6; cases h6
    · exact .inl h6
    · exact .inr fun d hd => h6 d hd

theorem isA_inv {ty : Nat → TI} {N : Nat} {o : Oper} (h : isA ty N o = true) : ∃ t d, o.op = .alloc t ∧ o.dst = some d ∧ (ty t).kd.agg.isSome = true ∧ d < N ∧ o.guard = none := by
  unfold isA at h
  split at h
  · rename_i t d h1 h2
    simp only [Bool.and_eq_true, decide_eq_true_eq, Option.isNone_iff_eq_none] at h
    exact ⟨t, d, h1, h2, h.1.1, h.1.2, h.2⟩
  · cases h
theorem not_isN_of_A {ty : Nat → TI} {N : Nat} {p : Nat × List Nat} {o : Oper} (h : isA ty N o = true) : isNp p o = false := by
  obtain ⟨t, d, h1, _⟩ := isA_inv h
  unfold isNp
  rw [h1]; rfl

/-- Two frames that differ at one slot look alike to who does not look there. -/
theorem get_put_ne {o : Oper} {ops : Array Oper} {d : Nat} {v : AV} (h : d ∉ o.looksAt ops) : ∀ t ∈ o.looksAt ops, fr.get t = (fr.put d v).get t := fun t ht => by
  rw [Fr.get_put, if_neg]; intro e; subst e; exact h ht

theorem PendOK.put {o : Oper} {d : Nat} {v : AV} {E : Env} {ops : Array Oper} (h : PendOK E ops fr σ o) (hd : d ∉ nms ops o) : PendOK E ops (fr.put d v) σ o := by
  obtain ⟨b, u, h1, h2, h3, h4⟩ := h
  have hl := get_put_ne (fr := fr) (v := v) (o := o) (ops := ops) (d := d) (fun hm => hd (List.mem_append_right _ hm))
  refine ⟨b, u, by rw [← wantA_like hl]; exact h1, fun hb => by rw [← nop_like _ (like_of hl)]; exact h2 hb, h3, fun e he => ?_⟩
  have hne : d ≠ e := fun x => hd (List.mem_append_left _ (by rw [he, x]; simp))
  rw [Fr.get_put, if_neg hne]
  exact h4 e he

theorem nthO_ops {i : Nat} {o : Oper} {ops : Array Oper} (h : ops[i]? = some o) : nthO ops.toList i = some o := by rw [nthO_eq]; simpa using h

/-- One that may come up at any time is looked at before it comes up. -/
theorem Inv.advN (hD : DOK C) {p : Nat × List Nat} (h : Inv C X L1 (p :: L2) eb K σ w fr a) (hp : ¬ X p.1) {o : Oper} (ho : C.ops[p.1]? = some o) (hn : isNp p o = true) : ∃ fr', Inv C X (L1 ++ [p]) L2 eb K σ w fr' a := by
  obtain ⟨b, v, rs', hb, hv1, hv2, hv3⟩ := evD_N hn (nthO_ops ho) h.ev
  obtain ⟨i, rs⟩ := p
  have hself := (hD.selfs (by rw [h.split]; simp) ho).2 hn
  ·
    cases hd : o.dst with
    | none =>
      rw [hd] at hv3
      refine ⟨fr, ⟨by rw [h.split]; simp, hv3.2, h.closed, fun q hq => ?_, fun q hq => h.p2 q (by simp [hq]), fun q hq q' hq' => h.inj q (by simp [hq]) q' (by simp [hq']), h.fsz, fun t u hu => ?_, h.rel, h.step, h.defers⟩⟩
      · rcases List.mem_append.1 hq with hq | hq
        · exact h.p1 q hq
        · simp at hq; subst hq
          exact .inr ⟨o, ho, hn, b, v, hb, hv1, hv2, fun d hd' => by rw [hd] at hd'; cases hd'⟩
      · rcases h.fr t u hu with h1 | ⟨q, h1, h2⟩ | ⟨q, h1, h2, h3⟩
        · exact .inl h1
        · exact .inr (.inl ⟨q, by simp [h1], h2⟩)
        · rcases List.mem_cons.1 h1 with rfl | h1
          · exact absurd h2 hp
          · exact .inr (.inr ⟨q, h1, h2, h3⟩)
    | some d =>
      rw [hd] at hv3
      have hl := get_put_ne (fr := fr) (v := v) (o := o) (ops := C.ops) (d := d) (fun hm => hself d hd hm)
      refine ⟨fr.put d v, ⟨by rw [h.split]; simp, hv3.2.2, h.closed, fun q hq => ?_, fun q hq => h.p2 q (by simp [hq]), fun q hq q' hq' => h.inj q (by simp [hq]) q' (by simp [hq']), h.fsz, fun t u hu => ?_, h.rel, h.step, h.defers⟩⟩
      · rcases List.mem_append.1 hq with hq | hq
        · rcases h.p1 q hq with h1 | ⟨oq, h1, h2, h3⟩
          · exact .inl h1
          · exact .inr ⟨oq, h1, h2, h3.put ((hD.two h.split hq (q := (i, rs)) (by simp) h1 ho).dst (.inl hn) d hd)⟩
        · simp at hq; subst hq
          refine .inr ⟨o, ho, hn, b, v, by rw [← wantA_like hl]; exact hb, fun e => by rw [← nop_like _ (like_of hl)]; exact hv1 e, hv2, fun d' hd' => ?_⟩
          rw [hd] at hd'; simp at hd'; subst hd'
          exact ⟨hv3.1, by rw [Fr.get_put, if_pos rfl]⟩
      · rw [Fr.get_put] at hu
        by_cases e : d = t
        · subst e
          exact .inr (.inl ⟨(i, rs), by simp, hp, o, ho, hd⟩)
        · rw [if_neg e] at hu
          rcases h.fr t u hu with h1 | ⟨q, h1, h2⟩ | ⟨q, h1, h2, h3⟩
          · exact .inl h1
          · exact .inr (.inl ⟨q, by simp [h1], h2⟩)
          · rcases List.mem_cons.1 h1 with rfl | h1
            · exact absurd h2 hp
            · exact .inr (.inr ⟨q, h1, h2, h3⟩)

theorem EarlyOK.mono {E : Env} {w0 w w' : World} {K K' : Kr} {σ σ' : List AObj} {a a' : Act} {o : Oper} {b : Nat} (h : EarlyOK E w0 K σ w a o b) (he : Ext σ.length K K') (hn : σ.length ≤ σ'.length) (hh : w'.heap[b]? = w.heap[b]?) (hf : Free K σ b → Free K' σ' b) (hS : ∀ p, K'.S b p = K.S b p)
    (ha : ∀ d, o.dst = some d → a'.tmps[d]? = a.tmps[d]?) : EarlyOK E w0 K' σ' w' a' o b := by
  obtain ⟨d, t, cc, T, h1, h2, h3, h4, h5, h6, h7, h8, h9⟩ := h
  exact ⟨d, t, cc, T, h1, h2, by rw [ha d h1]; exact h3, by rw [hh]; exact h4, h5.mono he hn, h6, hf h7, fun p => by rw [hS]; exact h8 p, h9⟩

/-- A new variable that came up early is looked at now. -/
theorem Inv.advA (hD : DOK C) {p : Nat × List Nat} (h : Inv C X L1 (p :: L2) eb K σ w fr a) (hp : X p.1) : ∃ K' σ' fr', Inv C X (L1 ++ [p]) L2 eb K' σ' w fr' a := by
  obtain ⟨o, ho, hA, he⟩ := h.p2 p (by simp) hp
  have hev := evD_E (not_isN_of_A hA) (hD.selfs (by rw [h.split]; simp) ho).1 (nthO_ops ho) h.ev
  obtain ⟨i, rs⟩ := p
  obtain ⟨t0, d0, g1, g2, g3, g4, g5⟩ := isA_inv hA
  simp only [evDo, g5, wantA, g1, g2] at hev
  have hev := hev.1 trivial
  have e1 : evOp C.E fr σ o.type (.alloc t0) (evNextD C.E C.ops.toList rs L2 (some d0) fr C.Q) = give2 (evNextD C.E C.ops.toList rs L2 (some d0) fr C.Q) (hop C.E.ty fr σ (.alloc t0)) := evOp_alloc
  rw [e1] at hev
  simp only [hop, g3, if_true, give2] at hev
  obtain ⟨d, t, cc, T, h1, h2, h3, h4, h5, h6, h7, h8, h9⟩ := he
  rw [g2] at h1; simp at h1; subst h1
  rw [g1] at h2; simp at h2; subst h2
  obtain ⟨r1, r2⟩ := h.rel.adopt h4 h5 h6 h7 h8 h9.2
  have hext : Ext σ.length K (K.setφ σ.length (eb i)) := Ext.setφ K _ _
  obtain ⟨hv1, _, hv3⟩ := hev
  refine ⟨_, _, fr.put d0 (.ptr σ.length 0), ⟨by rw [h.split]; simp, hv3, h.closed, fun q hq => ?_, fun q hq hx => ?_, fun q hq q' hq' => h.inj q (by simp [hq]) q' (by simp [hq']), h.fsz, fun t u hu => ?_, r1, ?_, h.defers⟩⟩
  · rcases List.mem_append.1 hq with hq | hq
    · rcases h.p1 q hq with k1 | ⟨oq, k1, k2, k3⟩
      · exact .inl k1
      · have k4 := k3.put (d := d0) (v := .ptr σ.length 0) ((hD.two h.split hq (q := (i, rs)) (by simp) k1 ho).dst (.inr hA) d0 g2)
        obtain ⟨b, u, l1, l2, l3, l4⟩ := k4
        exact .inr ⟨oq, k1, k2, b, u, l1, fun hb => nop_more (isNp_or k2) (l2 hb), l3, l4⟩
    · simp at hq; subst hq; exact .inl hp
  · obtain ⟨oq, k1, k2, k3⟩ := h.p2 q (by simp [hq]) hx
    refine ⟨oq, k1, k2, k3.mono hext (by simp) rfl (r2 _ fun e => ?_) (fun _ => rfl) (fun _ _ => rfl)⟩
    have := h.inj q (by simp [hq]) (i, rs) (by simp) hx hp e
    have hs : C.L = (L1 ++ [(i, rs)]) ++ L2 := by rw [h.split]; simp
    exact (hD.two hs (p := (i, rs)) (by simp) hq ho k1).ne this.symm
  · rw [Fr.get_put] at hu
    by_cases e : d0 = t
    · subst e
      rw [if_pos rfl] at hu; simp at hu; subst hu
      refine .inl ⟨_, h3, ?_⟩
      have := VR.ptr (K := K.setφ σ.length (eb i)) (n := (σ ++ [AObj.cells (C.E.ty t0).zero.cells]).length) σ.length 0 (by simp)
      simpa [Kr.setφ] using this
    · rw [if_neg e] at hu
      rcases h.fr t u hu with ⟨c, k1, k2⟩ | ⟨q, k1, k2⟩ | ⟨q, k1, k2, oq, k3, k4⟩
      · exact .inl ⟨c, k1, k2.mono hext (by simp)⟩
      · exact .inr (.inl ⟨q, by simp [k1], k2⟩)
      · rcases List.mem_cons.1 k1 with rfl | k1
        · rw [ho] at k3; simp at k3; subst k3
          rw [g2] at k4; simp at k4; exact absurd k4 e
        · exact .inr (.inr ⟨q, k1, k2, oq, k3, k4⟩)
  · have hs := h.step
    refine ⟨hs.ext.trans hext hs.len, by have := hs.len; simp; omega, hs.size, fun b hb hf => ?_, hs.os, hs.tape, hs.output, hs.froz⟩
    obtain ⟨m1, m2, m3⟩ := hs.keep b hb hf
    exact ⟨m1, r2 b (by omega) m2, m3⟩

theorem Inv.advTo (hD : DOK C) {M : List (Nat × List Nat)} : ∀ {L1 L2 : List (Nat × List Nat)} {K : Kr} {σ : List AObj} {fr : Fr}, Inv C X L1 (M ++ L2) eb K σ w fr a → (∀ p ∈ M, X p.1 ∨ ∃ o, C.ops[p.1]? = some o ∧ isNp p o = true) → ∃ K' σ' fr', Inv C X (L1 ++ M) L2 eb K' σ' w fr' a := by
  induction M with
  | nil => intro L1 L2 K σ fr h _; exact ⟨K, σ, fr, by simpa using h⟩
  | cons p M ih =>
    intro L1 L2 K σ fr h hM
    have hstep : ∃ K' σ' fr', Inv C X (L1 ++ [p]) (M ++ L2) eb K' σ' w fr' a := by
      by_cases hx : X p.1
      · exact h.advA hD hx
      · rcases hM p (by simp) with h1 | ⟨o, h1, h2⟩
        · exact absurd h1 hx
        · obtain ⟨fr', h3⟩ := h.advN hD hx h1 h2
          exact ⟨K, σ, fr', h3⟩
    obtain ⟨K1, σ1, fr1, h1⟩ := hstep
    obtain ⟨K2, σ2, fr2, h2⟩ := ih h1 (fun q hq => hM q (by simp [hq]))
    exact ⟨K2, σ2, fr2, by simpa using h2⟩
end Go.Mu
set_option linter.unusedSimpArgs false
set_option linter.unusedVariables false
namespace Go.Mu
open Go

variable {ro : Option Nat} {n : Nat}
variable {C : Ctx} {X : Nat → Prop} {L1 L2 : List (Nat × List Nat)} {eb : Nat → Nat} {K : Kr} {σ : List AObj} {w : World} {fr : Fr} {a : Act}

theorem order_of {α : Type} {L : List α} {p q : α} (hp : p ∈ L) (hq : q ∈ L) : q = p ∨ (∃ A B, L = A ++ B ∧ q ∈ A ∧ p ∈ B) ∨ (∃ A B, L = A ++ B ∧ p ∈ A ∧ q ∈ B) := by
  obtain ⟨A, B, rfl⟩ := List.append_of_mem hp
  rcases List.mem_append.1 hq with h | h
  · exact .inr (.inl ⟨A, p :: B, rfl, h, by simp⟩)
  · rcases List.mem_cons.1 h with h | h
    · exact .inl h
    · exact .inr (.inr ⟨A ++ [p], B, by simp, by simp, h⟩)

theorem put_get {a : Act} {d : Option Tmp} {c : Value} {t : Nat} (h : d ≠ some t) : (a.put d c).tmps[t]? = a.tmps[t]? := by
  cases d with
  | none => rfl
  | some d =>
    have hne : d ≠ t := fun e => h (by rw [e])
    simp [Act.put, Array.getElem?_setIfInBounds_ne hne]
theorem put_size {a : Act} {d : Option Tmp} {c : Value} : (a.put d c).tmps.size = a.tmps.size := by
  cases d with
  | none => rfl
  | some d => simp [Act.put]

/-- An operation whose time has come finds what it looks at. -/
theorem Inv.looks (hD : DOK C) (h : Inv C X L1 L2 eb K σ w fr a) {p : Nat × List Nat} (hp : p ∈ C.L) (hx : ¬ X p.1) {o : Oper} (ho : C.ops[p.1]? = some o) (hr : ∀ e ∈ o.after, Region.binds .any e = true → X e.on)
    (hpos : ∀ q ∈ L2, X q.1 → ∃ A B, C.L = A ++ B ∧ p ∈ A ∧ q ∈ B) (hself : isNp p o = true → ∀ d, o.dst = some d → d ∉ o.looksAt C.ops) (hnp : isNp p o = false → ∀ q ∈ L1, q ≠ p) : FR K σ.length C.E.N (fr.only (o.looksAt C.ops)) a.tmps := by
  refine ⟨h.fsz, fun t v hv => ?_⟩
  rw [Fr.get_only] at hv
  split at hv
  · rename_i ht
    have ht : t ∈ o.looksAt C.ops := by simpa using ht
    rcases h.fr t v hv with h1 | ⟨q, hq, hxq, oq, hoq, hdq⟩ | ⟨q, hq, hxq, oq, hoq, hdq⟩
    · exact h1
    · exfalso
      have hqN : isNp q oq = true := by
        rcases h.p1 q hq with k | ⟨o', k1, k2, _⟩
        · exact absurd k hxq
        · rw [hoq] at k1; simp at k1; subst k1; exact k2
      have hqL : q ∈ C.L := by rw [h.split]; simp [hq]
      rcases order_of hp hqL with e | ⟨A, B, hs, hqA, hpB⟩ | ⟨A, B, hs, hpA, hqB⟩
      · subst e
        rw [ho] at hoq; simp at hoq; subst hoq
        exact hself hqN t hdq ht
      · rcases (hD.two hs hqA hpB hoq ho).reads hqN with k | k
        · exact hxq (pred_in hD.masks h.closed q.1 p.1 o ho hr k)
        · exact k t hdq (List.mem_append_right _ ht)
      · exact (hD.two hs hpA hqB ho hoq).dst (.inl hqN) t hdq (List.mem_append_right _ ht)
    · exfalso
      obtain ⟨o', k1, k2, _⟩ := h.p2 q hq hxq
      rw [hoq] at k1; simp at k1; subst k1
      obtain ⟨A, B, hs, hpA, hqB⟩ := hpos q hq hxq
      exact (hD.two hs hpA hqB ho hoq).dst (.inr k2) t hdq (List.mem_append_right _ ht)
  · cases hv

theorem only_like {o : Oper} {ops : Array Oper} : ∀ t ∈ o.looksAt ops, fr.get t = (fr.only (o.looksAt ops)).get t := fun t ht => by
  rw [Fr.get_only, if_pos (by simpa using ht)]

theorem evOp_of_N {E : Env} {type : TypeId} {op : Op} {v : AV} {σ' : List AObj} {Y : AV → List AObj → Prop} (hn : isN op = true) (h : aop E fr σ type op = some (v, σ')) (hY : Y v σ') : evOp E fr σ type op Y := by
  have key : (match aop E fr σ type op with | some (v, σ') => Y v σ' | none => False) := by rw [h]; exact hY
  cases op with
  | call c =>
    obtain ⟨callee, args, ats⟩ := c
    cases callee with
    | builtin b => exact key
    | _ => simp [isN] at hn
  | next it b => simp [isN] at hn
  | binOp bo t x y u =>
    have hy : isNilC y = false := by simpa [isN] using hn
    simp only [evOp, hy]
    exact key
  | _ => exact key

theorem Inv.early (hD : DOK C) (h : Inv C X L1 L2 eb K σ w fr a) {K' : Kr} {σ' : List AObj} {w' : World} (hS : Step K σ w K' σ' w') {p q : Nat × List Nat} {o : Oper} (ho : C.ops[p.1]? = some o) (hq : q ∈ L2) (hx : X q.1)
    (hpos : ∃ A B, C.L = A ++ B ∧ p ∈ A ∧ q ∈ B) {c : Value} : ∃ oq, C.ops[q.1]? = some oq ∧ isA C.E.ty C.E.N oq = true ∧ EarlyOK C.E C.w0 K' σ' w' (a.put o.dst c) oq (eb q.1) := by
  obtain ⟨oq, k1, k2, k3⟩ := h.p2 q hq hx
  obtain ⟨A, B, hs, hpA, hqB⟩ := hpos
  have h2 := hD.two hs hpA hqB ho k1
  have hb : eb q.1 < w.heap.size := by obtain ⟨d, t, cc, T, h1, h2, h3, h4, _⟩ := k3; exact lt_of_heap h4
  have hfree : Free K σ (eb q.1) := by obtain ⟨d, t, cc, T, h1, h2, h3, h4, _, _, h7, _⟩ := k3; exact h7
  obtain ⟨m1, m2, m3⟩ := hS.keep _ hb hfree
  refine ⟨oq, k1, k2, k3.mono hS.ext hS.len m1 (fun _ => m2) m3 fun d hd => put_get fun e => ?_⟩
  exact h2.dst (.inr k2) d hd (List.mem_append_left _ (by rw [e]; simp))

theorem evOp_of_Np {E : Env} {type : TypeId} {op : Op} {v : AV} {σ' : List AObj} {Y : AV → List AObj → Prop} (hn : isCl op = true ∨ isN op = true) (h : nop E fr σ type op = some (v, σ')) (hY : Y v σ') : evOp E fr σ type op Y := by
  unfold nop at h
  cases hc : isCl op with
  | false => rw [hc] at h hn; exact evOp_of_N (by simpa using hn) h hY
  | true =>
    rw [hc] at h
    simp only [Option.map_eq_some_iff, Prod.mk.injEq] at h
    obtain ⟨u, h1, rfl, rfl⟩ := h
    cases op with
    | call c =>
      obtain ⟨callee, args, ats⟩ := c
      cases callee with
      | value f =>
        simp only [valP] at h1
        simp only [evOp]
        unfold callP at h1
        split at h1
        · rename_i g p q as e1 e2
          rw [e1, e2]
          simp only [callA, h1]
          exact hY
        · cases h1
      | _ => simp [isCl] at hc
    | _ => simp [isCl] at hc
/-- One that was looked at comes up. -/
theorem Inv.execN (hD : DOK C) (h : Inv C X L1 L2 eb K σ w fr a) {p : Nat × List Nat} (hp : p ∈ L1) (hx : ¬ X p.1) {o : Oper} (ho : C.ops[p.1]? = some o) (hr : ∀ e ∈ o.after, Region.binds .any e = true → X e.on)
    {KK : Act → World → Prop} {QQ : Exit → Act → World → Prop} (hk : ∀ K' w' a', Inv C (fun j => X j ∨ j = p.1) L1 L2 eb K' σ w' fr a' → KK a' w') : wpOpIn (Fw ro) n C.E.P C.ops QQ p.1 KK a w := by
  obtain ⟨o', k1, hn, b, v, hb, hv1, hv2, hv3⟩ := (h.p1 p hp).resolve_left hx
  rw [ho] at k1; simp at k1; subst k1
  have hpL : p ∈ C.L := by rw [h.split]; simp [hp]
  have hself := hD.self p hpL
  replace hself := (hD.selfs hpL ho).2 hn
  have hpos : ∀ q ∈ L2, ∃ A B, C.L = A ++ B ∧ p ∈ A ∧ q ∈ B := fun q hq => ⟨L1, L2, h.split, hp, hq⟩
  have hF := h.looks hD hpL hx ho hr (fun q hq _ => hpos q hq) (fun _ => hself) (fun e => by rw [hn] at e; cases e)
  have hne : ∀ q ∈ L2, p.1 ≠ q.1 := fun q hq e => by
    have hq' : C.ops[q.1]? = some o := by rw [← e]; exact ho
    exact (hD.two h.split hp hq ho hq').ne e
  have hfin : ∀ K' w' c, R K' σ w' → VR K' σ.length v c → Step K σ w K' σ w' → KK (a.put o.dst c) w' := by
    intro K' w' c g1 g2 g3
    refine hk K' w' _ ⟨h.split, h.ev, fun j oj hj hX e he hbd => ?_, fun q hq => ?_, fun q hq hX => ?_, fun q hq q' hq' h1 h2 => ?_, ?_, fun t u hu => ?_, g1, h.step.trans g3, ?_⟩
    · rcases hX with hX | rfl
      · exact .inl (h.closed j oj hj hX e he hbd)
      · rw [ho] at hj; simp at hj; subst hj; exact .inl (hr e he hbd)
    · rcases h.p1 q hq with m | m
      · exact .inl (.inl m)
      · exact .inr m
    · have hX' : X q.1 := hX.resolve_right fun e => hne q hq e.symm
      exact h.early hD g3 ho hq hX' (hpos q hq)
    · exact h.inj q hq q' hq' (h1.resolve_right fun e => hne q hq e.symm) (h2.resolve_right fun e => hne q' hq' e.symm)
    · rw [put_size]; exact h.fsz
    · by_cases e : o.dst = some t
      · obtain ⟨m1, m2⟩ := hv3 t e
        rw [m2] at hu; simp at hu; subst hu
        refine .inl ⟨c, ?_, g2⟩
        rw [e]; simp [Act.put, h.fsz, m1]
      · rcases h.fr t u hu with ⟨c', m1, m2⟩ | ⟨q, m1, m2, oq, m3, m4⟩ | ⟨q, m1, m2, m3⟩
        · exact .inl ⟨c', by rw [put_get e]; exact m1, m2.mono g3.ext g3.len⟩
        · refine .inr (.inl ⟨q, m1, fun hX => ?_, oq, m3, m4⟩)
          rcases hX with hX | hX
          · exact m2 hX
          · rw [hX, ho] at m3; simp at m3; subst m3; exact e m4
        · exact .inr (.inr ⟨q, m1, .inl m2, m3⟩)
    · rw [put_defers]; exact h.defers
  have hb' : wantA C.ops.toList (fr.only (o.looksAt C.ops)) o.guard = some b := by rw [← wantA_like only_like]; exact hb
  have hw := wantA_sound hF hb'
  unfold wpOpIn
  simp only [ho]
  cases b with
  | false =>
    rw [if_neg (by rw [hw]; simp)]
    have := hv2 rfl; subst this
    exact ⟨fun f _ => trivial, hfin K w undef h.rel undef_VR (.refl _ _ _)⟩
  | true =>
    rw [if_pos hw]
    have hv := hv1 rfl
    rw [nop_like _ (like_of (only_like (ops := C.ops)))] at hv
    refine opIn_sound hD.E (evOp_of_Np (isNp_or hn) (Y := fun v' σ' => v' = v ∧ σ' = σ) hv ⟨rfl, rfl⟩) h.rel hF ?_
    rintro K' σ' w' v' c ⟨rfl, rfl⟩ g1 g2 g3
    exact hfin K' w' c g1 g2 g3

/-- A new variable comes up early. -/
theorem Inv.execA (hD : DOK C) (h : Inv C X L1 L2 eb K σ w fr a) {p : Nat × List Nat} (hp : p ∈ L2) (hx : ¬ X p.1) {o : Oper} (ho : C.ops[p.1]? = some o) (hA : isA C.E.ty C.E.N o = true) (hr : ∀ e ∈ o.after, Region.binds .any e = true → X e.on)
    {KK : Act → World → Prop} {QQ : Exit → Act → World → Prop} (hk : ∀ eb' w' a', Inv C (fun j => X j ∨ j = p.1) L1 L2 eb' K σ w' fr a' → KK a' w') : wpOpIn (Fw ro) n C.E.P C.ops QQ p.1 KK a w := by
  obtain ⟨t0, d0, g1, g2, g3, g4, g5⟩ := isA_inv hA
  have hk' := kd_of_agg g3
  obtain ⟨z, hz, hzr⟩ := run_zero (K := K) (n := σ.length) hD.E.ty hk'
  obtain ⟨c1, c2⟩ := hz.cells (zero_flat hD.E.ty hk')
  have hpL : p ∈ C.L := by rw [h.split]; simp [hp]
  let w' := w.alloc (.cells z.cells t0 (0, 0))
  have hrun : (o.semAt (Fw ro).round a.eval).run C.E.P w = .ok (.value (.pointer (some ⟨w.heap.size, 0, none⟩))) w' := by
    rw [notDefer (by rw [g1]; intro c hc; cases hc)]
    simp only [execOp, g1, Instr.alloc, Sem.run_bind, hzr w, Result.andThen_ok, newVar, newRow]
    rfl
  obtain ⟨r1, r2⟩ := h.rel.newS (.cells z.cells t0 (0, 0)) K (.refl _ _) rfl (fun b p v hv => .inl hv)
  have hold : ∀ q ∈ L2, X q.1 → eb q.1 < w.heap.size := fun q hq hX => by
    obtain ⟨oq, k1, k2, d, t, cc, T, k3, k4, k5, k6, _⟩ := h.p2 q hq hX
    exact lt_of_heap k6
  have hfin : KK (a.put o.dst (.pointer (some ⟨w.heap.size, 0, none⟩))) w' := by
    refine hk (fun j => if j = p.1 then w.heap.size else eb j) w' _ ⟨h.split, h.ev, fun j oj hj hX e he hbd => ?_, fun q hq => ?_, fun q hq hX => ?_, fun q hq q' hq' h1 h2 => ?_, ?_, fun t u hu => ?_, r1, h.step.trans r2, ?_⟩
    · rcases hX with hX | rfl
      · exact .inl (h.closed j oj hj hX e he hbd)
      · rw [ho] at hj; simp at hj; subst hj; exact .inl (hr e he hbd)
    · rcases h.p1 q hq with m | m
      · exact .inl (.inl m)
      · exact .inr m
    · by_cases e : q.1 = p.1
      · rw [e, if_pos rfl]
        refine ⟨o, ho, hA, d0, t0, z.cells, t0, g2, g1, ?_, heap_alloc_new w _, c1, c2, fun r o hr hb => ?_, fun pp => ?_, h.step.size, fun g cs hg e => ?_⟩
        · rw [g2]; simp [Act.put, h.fsz, g4]
        · exact absurd ((h.rel.obj r o hr).blk_lt hb) (by omega)
        · cases hkk : K.S w.heap.size pp with
          | none => rfl
          | some v => have := h.rel.lt hkk; omega
        · have := lt_of_heap (h.rel.lay g cs hg).1.choose_spec.choose_spec; omega
      · rw [if_neg e]
        have hX' : X q.1 := hX.resolve_right e
        obtain ⟨oq, k1, k2, k3⟩ := h.p2 q hq hX'
        have hb := hold q hq hX'
        have hfree : Free K σ (eb q.1) := by obtain ⟨d, t, cc, T, h1, h2, h3, h4, _, _, h7, _⟩ := k3; exact h7
        obtain ⟨m1, m2, m3⟩ := r2.keep _ hb hfree
        refine ⟨oq, k1, k2, k3.mono r2.ext r2.len m1 (fun _ => m2) m3 fun d hd => put_get fun e' => ?_⟩
        have hqL : q ∈ C.L := by rw [h.split]; simp [hq]
        rcases order_of hpL hqL with e2 | ⟨A, B, hs, hqA, hpB⟩ | ⟨A, B, hs, hpA, hqB⟩
        · exact e (by rw [e2])
        · exact (hD.two hs hqA hpB k1 ho).dst (.inr hA) d e' (List.mem_append_left _ (by rw [hd]; simp))
        · exact (hD.two hs hpA hqB ho k1).dst (.inr k2) d hd (List.mem_append_left _ (by rw [e']; simp))
    · by_cases e : q.1 = p.1 <;> by_cases e' : q'.1 = p.1
      · intro _; rw [e, e']
      · have := hold q' hq' (h2.resolve_right e')
        rw [if_pos e, if_neg e']; intro e3; omega
      · have := hold q hq (h1.resolve_right e)
        rw [if_neg e, if_pos e']; intro e3; omega
      · rw [if_neg e, if_neg e']; exact h.inj q hq q' hq' (h1.resolve_right e) (h2.resolve_right e')
    · rw [put_size]; exact h.fsz
    · by_cases e : o.dst = some t
      · exact .inr (.inr ⟨p, hp, .inr rfl, o, ho, e⟩)
      · rcases h.fr t u hu with ⟨c', m1, m2⟩ | ⟨q, m1, m2, oq, m3, m4⟩ | ⟨q, m1, m2, m3⟩
        · exact .inl ⟨c', by rw [put_get e]; exact m1, m2⟩
        · refine .inr (.inl ⟨q, m1, fun hX => ?_, oq, m3, m4⟩)
          rcases hX with hX | hX
          · exact m2 hX
          · rw [hX, ho] at m3; simp at m3; subst m3; exact e m4
        · exact .inr (.inr ⟨q, m1, .inl m2, m3⟩)
    · rw [put_defers]; exact h.defers
  unfold wpOpIn
  simp only [ho]
  rw [if_pos (by unfold Region.wanted; rw [g5])]
  refine ⟨fun f _ => trivial, ?_⟩
  rw [hrun]
  exact hfin
end Go.Mu
set_option linter.unusedSimpArgs false
set_option linter.unusedVariables false
namespace Go.Mu
open Go

variable {ro : Option Nat} {n : Nat}
variable {C : Ctx} {X : Nat → Prop} {L1 L2 : List (Nat × List Nat)} {eb : Nat → Nat} {K : Kr} {σ : List AObj} {w : World} {fr : Fr} {a : Act}

theorem recheck_mem {E : Env} {all : List Oper} : ∀ {rs : List Nat} {r : Nat}, recheck E all fr σ rs → r ∈ rs → reOK E all fr σ (nthO all r)
  | [], _, _, h => by cases h
  | x :: rs, r, h, hr => by
    rcases List.mem_cons.1 hr with rfl | hr
    · exact h.1
    · exact recheck_mem h.2 hr

/-- One that turns things comes up. -/
theorem Inv.execE (hD : DOK C) {p : Nat × List Nat} (h : Inv C X L1 (p :: L2) eb K σ w fr a) (hx : ¬ X p.1) {o : Oper} (ho : C.ops[p.1]? = some o) (hn : isNp p o = false) (hA : isA C.E.ty C.E.N o = false) (hr : ∀ e ∈ o.after, Region.binds .any e = true → X e.on)
    {KK : Act → World → Prop} {QQ : Exit → Act → World → Prop} (hk : ∀ K' σ' w' fr' a', Inv C (fun j => X j ∨ j = p.1) (L1 ++ [p]) L2 eb K' σ' w' fr' a' → KK a' w') : wpOpIn (Fw ro) n C.E.P C.ops QQ p.1 KK a w := by
  have hpL : p ∈ C.L := by rw [h.split]; simp
  have hs2 : C.L = (L1 ++ [p]) ++ L2 := by rw [h.split]; simp
  have hpos : ∀ q ∈ L2, ∃ A B, C.L = A ++ B ∧ p ∈ A ∧ q ∈ B := fun q hq => ⟨L1 ++ [p], L2, hs2, by simp, hq⟩
  have hne : ∀ q ∈ L2, p.1 ≠ q.1 := fun q hq e => by
    have hq' : C.ops[q.1]? = some o := by rw [← e]; exact ho
    exact (hD.two hs2 (by simp) hq ho hq').ne e
  have hF := h.looks hD hpL hx ho hr (fun q hq hX => by
    rcases List.mem_cons.1 hq with rfl | hq
    · exact absurd hX hx
    · exact hpos q hq) (fun e => by rw [hn] at e; cases e) (fun _ q hq e => by
      subst e
      exact (hD.two h.split hq (List.mem_cons_self ..) ho ho).ne rfl)
  have hev := evD_E hn (hD.selfs hpL ho).1 (nthO_ops ho) h.ev
  obtain ⟨i, rs⟩ := p
  simp only [evDo] at hev
  have hfin : ∀ K' σ' w' v c, evNextD C.E C.ops.toList rs L2 o.dst fr C.Q v σ' → R K' σ' w' → VR K' σ'.length v c → Step K σ w K' σ' w' → KK (a.put o.dst c) w' := by
    intro K' σ' w' v c g0 g1 g2 g3
    obtain ⟨fr', hfr, hrec, hev', hN⟩ : ∃ fr', (fr' = match o.dst with | none => fr | some d => fr.put d v) ∧ recheck C.E C.ops.toList fr' σ' rs ∧ evD C.E C.ops.toList L2 fr' σ' C.Q ∧ ∀ d, o.dst = some d → d < C.E.N := by
      unfold evNextD at g0
      cases hd : o.dst with
      | none => rw [hd] at g0; exact ⟨_, rfl, g0.1, g0.2, fun d h => by cases h⟩
      | some d => rw [hd] at g0; exact ⟨_, rfl, g0.2.1, g0.2.2, fun d' h => by simp at h; subst h; exact g0.1⟩
    have hget : ∀ t, o.dst ≠ some t → fr'.get t = fr.get t := fun t ht => by
      subst hfr
      cases hd : o.dst with
      | none => rfl
      | some d =>
        simp only
        rw [Fr.get_put, if_neg (fun e => ht (by rw [hd, e]))]
    refine hk K' σ' w' fr' _ ⟨hs2, hev', fun j oj hj hX e he hbd => ?_, fun q hq => ?_, fun q hq hX => ?_, fun q hq q' hq' h1 h2 => ?_, ?_, fun t u hu => ?_, g1, h.step.trans g3, ?_⟩
    · rcases hX with hX | rfl
      · exact .inl (h.closed j oj hj hX e he hbd)
      · simp only at ho; rw [ho] at hj; simp at hj; subst hj; exact .inl (hr e he hbd)
    · rcases List.mem_append.1 hq with hq | hq
      · rcases h.p1 q hq with m | ⟨oq, m1, m2, b, u, l1, l2, l3, l4⟩
        · exact .inl (.inl m)
        · have h2 := hD.two h.split hq (q := (i, rs)) (by simp) m1 ho
          rcases h2.eff with m | m | m | m | ⟨m3, m4⟩
          · rw [hn] at m; cases m
          · rw [hA] at m; cases m
          · rw [m2] at m; cases m
          · exact .inl (.inl (pred_in hD.masks h.closed q.1 i o ho hr m))
          · have hlk : ∀ t ∈ oq.looksAt C.ops, fr.get t = fr'.get t := fun t ht => (hget t fun e => m3 t e (List.mem_append_right _ ht)).symm
            have hdst : ∀ d, oq.dst = some d → fr'.get d = fr.get d := fun d hd => hget d fun e => m3 d e (List.mem_append_left _ (by rw [hd]; simp))
            refine .inr ⟨oq, m1, m2, b, ?_⟩
            have hw' : wantA C.ops.toList fr' oq.guard = some b := by rw [← wantA_like hlk]; exact l1
            cases hl : isL oq.op with
            | false =>
              refine ⟨u, hw', fun hb => ?_, l3, fun d hd => ⟨(l4 d hd).1, by rw [hdst d hd]; exact (l4 d hd).2⟩⟩
              rw [← nop_like _ (like_of hlk)]
              exact nop_pure (isNp_or m2) hl (l2 hb)
            | true =>
              have hre := recheck_mem hrec (m4 hl)
              rw [nthO_ops m1] at hre
              simp only [reOK, hw'] at hre
              cases b with
              | false =>
                refine ⟨u, hw', fun hb => (by cases hb), l3, fun d hd => ⟨(l4 d hd).1, by rw [hdst d hd]; exact (l4 d hd).2⟩⟩
              | true =>
                simp only at hre
                cases hh : hop C.E.ty fr' σ' oq.op with
                | none => rw [hh] at hre; exact hre.elim
                | some q2 =>
                  obtain ⟨v', σx⟩ := q2
                  rw [hh] at hre
                  have ha : nop C.E fr' σ' oq.type oq.op = some (v', σx) := by rw [nop_load hl]; exact hh
                  have e := nop_N (isNp_or m2) ha
                  refine ⟨v', hw', fun _ => by rw [ha, e], fun hb => (by cases hb), fun d hd => ⟨(l4 d hd).1, ?_⟩⟩
                  rw [hd] at hre
                  exact hre
      · simp at hq; subst hq; exact .inl (.inr rfl)
    · have hX' : X q.1 := hX.resolve_right fun e => hne q hq e.symm
      exact h.early hD g3 ho (List.mem_cons_of_mem _ hq) hX' (hpos q hq)
    · exact h.inj q (by simp [hq]) q' (by simp [hq']) (h1.resolve_right fun e => hne q hq e.symm) (h2.resolve_right fun e => hne q' hq' e.symm)
    · rw [put_size]; exact h.fsz
    · by_cases e : o.dst = some t
      · refine .inl ⟨c, ?_, ?_⟩
        · rw [e]; simp [Act.put, h.fsz, hN t e]
        · subst hfr
          rw [e] at hu
          simp only [Fr.get_put, if_true, Option.some.injEq] at hu
          subst hu; exact g2
      · rw [hget t e] at hu
        rcases h.fr t u hu with ⟨c', m1, m2⟩ | ⟨q, m1, m2, oq, m3, m4⟩ | ⟨q, m1, m2, m3⟩
        · exact .inl ⟨c', by rw [put_get e]; exact m1, m2.mono g3.ext g3.len⟩
        · refine .inr (.inl ⟨q, by simp [m1], fun hX => ?_, oq, m3, m4⟩)
          rcases hX with hX | hX
          · exact m2 hX
          · simp only at ho; rw [hX, ho] at m3; simp at m3; subst m3; exact e m4
        · rcases List.mem_cons.1 m1 with rfl | m1
          · exact absurd m2 hx
          · exact .inr (.inr ⟨q, m1, .inl m2, m3⟩)
    · rw [put_defers]; exact h.defers
  split at hev
  · exact hev.elim
  · rename_i b hb
    have hb' : wantA C.ops.toList (fr.only (o.looksAt C.ops)) o.guard = some b := by rw [← wantA_like only_like]; exact hb
    have hw := wantA_sound hF hb'
    unfold wpOpIn
    simp only [ho]
    cases b with
    | false =>
      rw [if_neg (by rw [hw]; simp)]
      exact ⟨fun f _ => trivial, hfin K σ w _ undef (hev.2 rfl) h.rel undef_VR (.refl _ _ _)⟩
    | true =>
      rw [if_pos hw]
      have hv := hev.1 rfl
      rw [evOp_like _ (like_of (only_like (ops := C.ops)))] at hv
      exact opIn_sound hD.E hv h.rel hF fun K' σ' w' v c g0 g1 g2 g3 => hfin K' σ' w' v c g0 g1 g2 g3

theorem Inv.done (hD : DOK C) (h : Inv C X L1 L2 eb K σ w fr a) (hall : ∀ i, i < C.ops.size → X i) : Done C.E C.K0 C.σ0 C.w0 C.ds C.Q .normal a w := by
  have hL : ∀ p ∈ C.L, X p.1 := fun p hp => by
    have h1 := hD.self p hp
    unfold selfOK at h1
    cases ho : C.ops[p.1]? with
    | none => rw [ho] at h1; cases h1
    | some o => exact hall _ (Array.getElem?_eq_some_iff.1 ho).1
  obtain ⟨K', σ', fr', h1⟩ := Inv.advTo hD (M := L2) (L2 := []) (by simpa using h) (fun p hp => .inl (hL p (by rw [h.split]; simp [hp])))
  refine ⟨rfl, K', σ', fr', h1.ev, h1.rel, ⟨h1.fsz, fun t v hv => ?_⟩, h1.step, h1.defers⟩
  rcases h1.fr t v hv with m | ⟨q, m1, m2, _⟩ | ⟨q, m1, _⟩
  · exact m
  · exact absurd (hL q (by rw [h1.split]; simpa using m1)) m2
  · cases m1

/-- How many have not come up. -/
def left (size : Nat) (listed : Array Bool) : Nat := ((List.range size).filter fun i => listed.getD i true == false).length
theorem filter_lt {α : Type} {p q : α → Bool} (hpq : ∀ x, q x = true → p x = true) : ∀ {l : List α} {y : α}, y ∈ l → p y = true → q y = false → (l.filter q).length < (l.filter p).length
  | x :: l, y, hy, h1, h2 => by
    have hle : ∀ l : List α, (l.filter q).length ≤ (l.filter p).length := by
      intro l
      induction l with
      | nil => simp
      | cons z l ih =>
        by_cases hz : q z = true
        · rw [List.filter_cons_of_pos hz, List.filter_cons_of_pos (hpq z hz)]; simp; exact ih
        · rw [List.filter_cons_of_neg hz]
          by_cases hz' : p z = true
          · rw [List.filter_cons_of_pos hz']; simp; omega
          · rw [List.filter_cons_of_neg hz']; exact ih
    rcases List.mem_cons.1 hy with rfl | hy
    · rw [List.filter_cons_of_pos h1, List.filter_cons_of_neg (by rw [h2]; simp)]
      have := hle l; simp; omega
    · have ih := filter_lt hpq hy h1 h2
      by_cases hz : q x = true
      · rw [List.filter_cons_of_pos hz, List.filter_cons_of_pos (hpq x hz)]; simp; exact ih
      · rw [List.filter_cons_of_neg hz]
        by_cases hz' : p x = true
        · rw [List.filter_cons_of_pos hz']; simp; omega
        · rw [List.filter_cons_of_neg hz']; exact ih

theorem anyD (hD : DOK C) : ∀ (fuel : Nat) (listed : Array Bool) (L1 L2 : List (Nat × List Nat)) (eb : Nat → Nat) (K : Kr) (σ : List AObj) (w : World) (fr : Fr) (a : Act), listed.size = C.ops.size → left C.ops.size listed ≤ fuel →
    Inv C (fun j => listed.getD j false = true) L1 L2 eb K σ w fr a → wpAnyIn (Fw ro) n C.E.P .any C.ops (Done C.E C.K0 C.σ0 C.w0 C.ds C.Q) fuel listed a w := by
  have hget : ∀ (listed : Array Bool) (j : Nat), listed.size = C.ops.size → j < C.ops.size → listed.getD j true = listed.getD j false := fun listed j hs hj => by
    have : j < listed.size := by omega
    simp [Array.getD, this]
  have hrdy : ∀ (listed : Array Bool), listed.size = C.ops.size → Region.ready .any C.ops listed = [] → ∀ i, i < C.ops.size → listed.getD i false = true := by
    intro listed hs hr i
    induction i using Nat.strongRecOn with
    | _ i ih =>
      intro hi
      cases hc : listed.getD i false with
      | true => rfl
      | false =>
        exfalso
        have ho : C.ops[i]? = some C.ops[i] := Array.getElem?_eq_getElem hi
        have h1 := List.all_eq_true.1 hD.masks i (List.mem_range.2 hi)
        simp only [ho, Bool.and_eq_true, beq_iff_eq, List.all_eq_true, Bool.or_eq_true, Bool.not_eq_true', decide_eq_true_eq] at h1
        have hmem : i ∈ Region.ready .any C.ops listed := mem_ready.2 ⟨by rw [hget listed i hs hi]; exact hc, _, ho, fun e he hb => by
          have hlt : e.on < i := by
            rcases h1.2 e (by simpa using he) with h5 | h5
            · rw [hb] at h5; cases h5
            · exact h5
          exact ih e.on hlt (by omega)⟩
        rw [hr] at hmem; cases hmem
  have hsome : ∀ (listed : Array Bool), left C.ops.size listed = 0 → listed.size = C.ops.size → ∀ i, i < C.ops.size → listed.getD i false = true := by
    intro listed h0 hs i hi
    cases hc : listed.getD i false with
    | true => rfl
    | false =>
      unfold left at h0
      have hnil := List.length_eq_zero_iff.1 h0
      have : i ∈ ((List.range C.ops.size).filter fun i => listed.getD i true == false) := List.mem_filter.2 ⟨List.mem_range.2 hi, by rw [hget listed i hs hi, hc]; rfl⟩
      rw [hnil] at this; cases this
  intro fuel
  induction fuel with
  | zero =>
    intro listed L1 L2 eb K σ w fr a hs hl h
    have hall := hsome listed (by omega) hs
    refine ⟨?_, h.done hD hall⟩
    apply List.eq_nil_iff_forall_not_mem.2
    intro i hi
    obtain ⟨h1, o, ho, _⟩ := mem_ready.1 hi
    have hlt := (Array.getElem?_eq_some_iff.1 ho).1
    rw [hget listed i hs hlt, hall i hlt] at h1; cases h1
  | succ fuel ih =>
    intro listed L1 L2 eb K σ w fr a hs hl h
    refine ⟨fun hr => h.done hD (hrdy listed hs hr), fun i hi => ?_⟩
    obtain ⟨h1, o, ho, hdeps⟩ := mem_ready.1 hi
    have hlt := (Array.getElem?_eq_some_iff.1 ho).1
    rw [hget listed i hs hlt] at h1
    have hx : ¬ listed.getD i false = true := by rw [h1]; simp
    -- the set grows
    have hset : (fun j => (listed.setIfInBounds i true).getD j false = true) = fun j => listed.getD j false = true ∨ j = i := by
      funext j
      apply propext
      by_cases e : i = j
      · subst e; simp [hs, hlt]
      · rw [getD_set_ne false e]
        constructor
        · intro h; exact .inl h
        · rintro (h | h)
          · exact h
          · exact absurd h.symm e
    have hleft : left C.ops.size (listed.setIfInBounds i true) ≤ fuel := by
      have : left C.ops.size (listed.setIfInBounds i true) < left C.ops.size listed := by
        refine filter_lt (fun x hx => ?_) (List.mem_range.2 hlt) (by rw [hget listed i hs hlt, h1]; rfl) ?_
        · by_cases e : i = x
          · subst e; simp [hs, hlt] at hx
          · rw [getD_set_ne true e] at hx; exact hx
        · simp [hs, hlt]
      omega
    have hcont : ∀ L1 L2 eb K' σ' w' fr' a', Inv C (fun j => listed.getD j false = true ∨ j = i) L1 L2 eb K' σ' w' fr' a' → wpAnyIn (Fw ro) n C.E.P .any C.ops (Done C.E C.K0 C.σ0 C.w0 C.ds C.Q) fuel (listed.setIfInBounds i true) a' w' := by
      intro L1 L2 eb K' σ' w' fr' a' h'
      exact ih _ L1 L2 eb K' σ' w' fr' a' (by simpa using hs) hleft (by rw [hset]; exact h')
    obtain ⟨p, hpL, rfl⟩ := hD.all i hlt
    have hpL' := hpL
    rw [h.split] at hpL'
    rcases List.mem_append.1 hpL' with hp | hp
    · exact h.execN hD hp hx ho hdeps fun K' w' a' h' => hcont _ _ _ _ _ _ _ _ h'
    · cases hA : isA C.E.ty C.E.N o with
      | true => exact h.execA hD hp hx ho hA hdeps fun eb' w' a' h' => hcont _ _ _ _ _ _ _ _ h'
      | false =>
        obtain ⟨M, M', rfl⟩ := List.append_of_mem hp
        obtain ⟨K1, σ1, fr1, h2⟩ := Inv.advTo hD (M := M) (L2 := p :: M') h (fun q hq => by
          have hqL : q ∈ C.L := by rw [h.split]; simp [hq]
          have hq1 := hD.self q hqL
          unfold selfOK at hq1
          cases hoq : C.ops[q.1]? with
          | none => rw [hoq] at hq1; cases hq1
          | some oq =>
            have hs3 : C.L = (L1 ++ M) ++ (p :: M') := by rw [h.split]; simp
            rcases (hD.two hs3 (p := q) (q := p) (by simp [hq]) (by simp) hoq ho).dep with m | m | m
            · rw [hA] at m; cases m
            · exact .inr ⟨oq, rfl, m⟩
            · exact .inl (pred_in hD.masks h.closed q.1 p.1 o ho hdeps m))
        cases hn : isNp p o with
        | true =>
          obtain ⟨fr2, h3⟩ := h2.advN hD hx ho hn
          exact h3.execN hD (by simp) hx ho hdeps fun K' w' a' h' => hcont _ _ _ _ _ _ _ _ h'
        | false => exact h2.execE hD hx ho hn hA hdeps fun K' σ' w' fr' a' h' => hcont _ _ _ _ _ _ _ _ h'

/-- A STATEMENT WHOSE ORDER IS DRAWN. -/
theorem ARun.drawn {E : Env} (hE : EnvOK E) {id : Nat} {ops : Array Oper} (c : List Nat × List (Nat × List Nat)) (hL : drawOK E.ty E.N ops c = true) {k : List Item} {fr : Fr} {σ : List AObj} {Q : Option Code → Fr → List AObj → Prop}
    (h : evD E ops.toList c.2 fr σ fun fr σ => ARun E ro k fr σ Q) : ARun E ro (.code (.region id ops true) :: k) fr σ Q := by
  intro K w a b cs hb hR hF
  let w1 : World := { w with drawn := w.drawn + 1 }
  let C : Ctx := ⟨E, ops, c.1, c.2, K, σ, w1, a.defers, fun fr σ => ARun E ro k fr σ Q⟩
  have hD : DOK C := DOK.of (C := C) hE hL
  have hI : Inv C (fun j => (Array.replicate ops.size false).getD j false = true) [] c.2 (fun _ => 0) K σ w1 fr a := by
    have hno : ∀ j, ¬ ((Array.replicate ops.size false).getD j false = true) := fun j h => by
      by_cases hj : j < ops.size <;> simp [hj, Array.getElem?_replicate] at h
    refine ⟨rfl, h, fun j o _ hX => absurd hX (hno j), fun p hp => (by cases hp), fun p _ hX => absurd hX (hno _), fun p _ q _ hX => absurd hX (hno _), hF.1, fun t v hv => .inl (hF.2 t v hv), hR.drew _, .refl _ _ _, rfl⟩
  have hw := anyD (ro := b.roundOf) (n := 0) hD ops.size (Array.replicate ops.size false) [] c.2 (fun _ => 0) K σ w1 fr a (by simp; rfl) (by
    unfold left
    exact Nat.le_trans (List.length_filter_le _ _) (by simp; exact Nat.le_refl _)) hI
  have hw2 : (Code.region id ops true).wpIn (Fw b.roundOf) 0 E.P (Done E K σ w1 a.defers fun fr σ => ARun E ro k fr σ Q) a w := wpIn_region_any hE.mixed hw
  obtain ⟨e, a', w', ⟨rfl, K', σ', fr', hq, h2, h3, h4, h5⟩, harr⟩ := hw2 b k cs rfl trivial (Fw_room _ _)
  obtain ⟨K2, σ2, fr2, w2, a2, t2, j, ms, g1, g2, g3, g4, g5, g6, g7, g8⟩ := hq K' w' a' b cs (hb.mono h4.ext h4.len) h2 h3
  have h4' : Step K σ w K' σ' w' := .drew _ h4
  refine ⟨K2, σ2, fr2, w2, a2, t2, j, ms, g1, (StepsIn.steps harr).trans g2, g3, g4, g5, h4'.trans g6, by rw [g7, h5], ?_⟩
  exact ⟨g8.nodup, fun r hr => Nat.le_trans h4'.size (g8.lo r hr), g8.heap, g8.free⟩
end Go.Mu
set_option linter.unusedSimpArgs false
set_option linter.unusedVariables false
namespace Go.Mu
open Go

variable {E : Env} {ro : Option Nat} {K : Kr}


def ev (E : Env) (ro : Option Nat) : Nat → List Item → Fr → List AObj → Post → Prop
  | 0, todo, fr, σ, Q => ARun E ro todo fr σ Q
  | _ + 1, [], fr, σ, Q => Q none fr σ
  | n + 1, .inBlock _ :: k, fr, σ, Q => ev E ro n k fr σ Q
  | n + 1, .inScope _ :: k, fr, σ, Q => ev E ro n k fr σ Q
  | n + 1, .code c :: k, fr, σ, Q =>
    match c with
    | .skip => ev E ro n k fr σ Q
    | .label _ => ev E ro n k fr σ Q
    | .seq x y => ev E ro n (.code x :: .code y :: k) fr σ Q
    | .block id x => ev E ro n (.code x :: .inBlock id :: k) fr σ Q
    | .scope x => ev E ro n (.code x :: .inScope x :: k) fr σ Q
    | .cond c x y => match aeval fr c with
      | some (.bool t) => (t = true → ev E ro n (.code x :: k) fr σ Q) ∧ (t = false → ev E ro n (.code y :: k) fr σ Q)
      | _ => False
    | .exit id => match exitTo id k with
      | some k' => ev E ro n k' fr σ Q
      | none => Q (some (.exit id)) fr σ
    | .goto l => match gotoIn l k with
      | some k' => ev E ro n k' fr σ Q
      | none => False
    | .ret => Q (some .ret) fr σ
    | .region id ops draw => if draw then evD E ops.toList (E.ord id).2 fr.anew σ (ev E ro n k · · Q) else evOps E ops.toList ops.toList fr.anew σ (ev E ro n k · · Q)
    | c => ARun E ro (.code c :: k) fr.anew σ Q
  | _ + 1, todo, fr, σ, Q => ARun E ro todo fr.anew σ Q

/-- The orders given for the statements whose order is drawn are good ones. -/
def codeOK (E : Env) : Code → Bool
  | .region id ops draw => !draw || drawOK E.ty E.N ops (E.ord id)
  | .seq a b => codeOK E a && codeOK E b
  | .cond _ a b => codeOK E a && codeOK E b
  | .block _ a => codeOK E a
  | .loop a => codeOK E a
  | .scope a => codeOK E a
  | .rangeFunc _ _ a b => codeOK E a && codeOK E b
  | _ => true
def itemOK (E : Env) : Item → Bool
  | .code c => codeOK E c
  | .inLoop c => codeOK E c
  | .inScope c => codeOK E c
  | _ => true
def todoOK (E : Env) (todo : List Item) : Bool := todo.all (itemOK E)
theorem todoOK_cons {i : Item} {k : List Item} : todoOK E (i :: k) = (itemOK E i && todoOK E k) := rfl
theorem exitTo_OK {id : Nat} : ∀ {k k' : List Item}, exitTo id k = some k' → todoOK E k = true → todoOK E k' = true
  | [], _, h, _ => by simp [exitTo] at h
  | i :: k, k', h, hk => by
    rw [todoOK_cons, Bool.and_eq_true] at hk
    cases i with
    | inBlock id' =>
      simp only [exitTo] at h
      split at h
      · simp at h; subst h; exact hk.2
      · exact exitTo_OK h hk.2
    | _ => simp only [exitTo] at h; exact exitTo_OK (k := k) h hk.2
theorem findLabel_OK {l : Nat} : ∀ {c c' : Code}, findLabel c l = some c' → codeOK E c = true → codeOK E c' = true := by
  intro c
  induction c with
  | seq a b iha ihb =>
    intro c' h hc
    simp only [codeOK, Bool.and_eq_true] at hc
    simp only [findLabel] at h
    split at h
    · rename_i r hr
      simp at h; subst h
      simp only [codeOK, Bool.and_eq_true]
      exact ⟨iha hr hc.1, hc.2⟩
    · exact ihb h hc.2
  | label l' =>
    intro c' h hc
    simp only [findLabel] at h
    split at h
    · simp at h; subst h; rfl
    · cases h
  | _ => intro c' h hc; simp [findLabel] at h
theorem gotoIn_OK {l : Nat} : ∀ {k k' : List Item}, gotoIn l k = some k' → todoOK E k = true → todoOK E k' = true
  | [], _, h, _ => by simp [gotoIn] at h
  | i :: k, k', h, hk => by
    have hk0 := hk
    rw [todoOK_cons, Bool.and_eq_true] at hk
    cases i with
    | inScope c =>
      simp only [gotoIn] at h
      split at h
      · rename_i r hr
        simp at h; subst h
        rw [todoOK_cons, Bool.and_eq_true]
        exact ⟨findLabel_OK hr hk.1, hk0⟩
      · exact gotoIn_OK h hk.2
    | _ => simp only [gotoIn] at h; exact gotoIn_OK (k := k) h hk.2

theorem evD_mono {all : List Oper} {Q Q' : Fr → List AObj → Prop} (hq : ∀ fr σ, Q fr σ → Q' fr σ) : ∀ {L : List (Nat × List Nat)} {fr : Fr} {σ : List AObj}, evD E all L fr σ Q → evD E all L fr σ Q'
  | [], fr, σ, h => hq _ _ h
  | (i, rs) :: L, fr, σ, h => by
    rw [evD_cons] at h ⊢
    have hn : ∀ rs dst v σ', evNextD E all rs L dst fr Q v σ' → evNextD E all rs L dst fr Q' v σ' := fun rs dst v σ' h => by
      unfold evNextD at h ⊢
      split at h
      · exact ⟨h.1, evD_mono hq h.2⟩
      · exact ⟨h.1, h.2.1, evD_mono hq h.2.2⟩
    cases hb : rs == [i] with
    | true =>
      rw [hb] at h
      cases ho : nthO all i with
      | none => rw [ho] at h; exact h
      | some o =>
        rw [ho] at h
        simp only [evDs, evDp] at h ⊢
        cases hw : wantA all fr o.guard with
        | none => rw [hw] at h; exact h.elim
        | some b =>
          rw [hw] at h
          refine ⟨fun hb => ?_, fun hb => hn _ _ _ _ (h.2 hb)⟩
          have h := h.1 hb
          unfold evPc givP at h ⊢
          cases hv : valP E fr o.op with
          | none => rw [hv] at h; exact h
          | some v => rw [hv] at h; exact hn _ _ _ _ h
    | false =>
      rw [hb] at h
      cases ho : nthO all i with
      | none => rw [ho] at h; exact h
      | some o =>
        rw [ho] at h
        simp only [evDs, evDo] at h ⊢
        cases hw : wantA all fr o.guard with
        | none => rw [hw] at h; exact h.elim
        | some b =>
          rw [hw] at h
          exact ⟨fun hb => evOp_mono (hn _ _) (h.1 hb), fun hb => hn _ _ _ _ (h.2 hb)⟩

theorem ev_sound (hE : EnvOK E) {Q : Post} : ∀ {n : Nat} {todo : List Item} {fr : Fr} {σ : List AObj}, todoOK E todo = true → ev E ro n todo fr σ Q → ARun E ro todo fr σ Q
  | 0, todo, fr, σ, _, h => h
  | n + 1, [], fr, σ, _, h => .leave .nil h
  | n + 1, i :: k, fr, σ, ho, h => by
    cases i with
    | inBlock _ => exact .inBlock (ev_sound hE (by rw [todoOK_cons, Bool.and_eq_true] at ho; exact ho.2) h)
    | inScope _ => exact .inScope (ev_sound hE (by rw [todoOK_cons, Bool.and_eq_true] at ho; exact ho.2) h)
    | code c =>
      rw [todoOK_cons, Bool.and_eq_true] at ho
      obtain ⟨hc, hk⟩ := ho
      cases c with
      | skip => exact .skip (ev_sound hE hk h)
      | label _ => exact .label (ev_sound hE hk h)
      | seq x y =>
        simp only [itemOK, codeOK, Bool.and_eq_true] at hc
        exact .seq (ev_sound hE (by simp only [todoOK_cons, itemOK, hc.1, hc.2, hk, Bool.and_self]) h)
      | block id x => exact .block (ev_sound hE (by rw [todoOK_cons, todoOK_cons, Bool.and_eq_true, Bool.and_eq_true]; exact ⟨hc, rfl, hk⟩) h)
      | scope x => exact .scope (ev_sound hE (by rw [todoOK_cons, todoOK_cons, Bool.and_eq_true, Bool.and_eq_true]; exact ⟨hc, hc, hk⟩) h)
      | cond c x y =>
        simp only [itemOK, codeOK, Bool.and_eq_true] at hc
        simp only [ev] at h
        split at h
        · rename_i t hcc
          refine .cond hcc ?_
          cases t
          · exact ev_sound hE (by rw [todoOK_cons, Bool.and_eq_true]; exact ⟨hc.2, hk⟩) (h.2 rfl)
          · exact ev_sound hE (by rw [todoOK_cons, Bool.and_eq_true]; exact ⟨hc.1, hk⟩) (h.1 rfl)
        · exact h.elim
      | exit id =>
        simp only [ev] at h
        split at h
        · rename_i k' hk'; exact .exit hk' (ev_sound hE (exitTo_OK hk' hk) h)
        · rename_i hk'; exact .leave (.exit id k hk') h
      | goto l =>
        simp only [ev] at h
        split at h
        · rename_i k' hk'; exact .goto hk' (ev_sound hE (gotoIn_OK hk' hk) h)
        · exact h.elim
      | ret => exact .leave (.ret k) h
      | region id ops draw =>
        simp only [ev] at h
        split at h
        · rename_i hd
          simp only [itemOK, codeOK, hd, Bool.not_true, Bool.false_or] at hc
          subst hd
          exact .anew (.drawn hE _ hc (evD_mono (fun fr σ h => ev_sound hE hk h) h))
        · rename_i hd
          simp at hd; subst hd
          exact .anew (.region hE (evOps_mono (fun fr σ h => ev_sound hE hk h) h))
      | loop x => exact .anew h
      | rangeFunc f p x y => exact .anew h
      | refuse w => exact .anew h
    | _ => exact .anew h

/-- The rest behind a statement. -/
def evK (E : Env) (ro : Option Nat) (n : Nat) (k : List Item) (Q : Post) (fr : Fr) (σ : List AObj) : Prop := ev E ro n k fr σ Q

section rules
variable {n : Nat} {k : List Item} {fr : Fr} {σ : List AObj} {Q : Post}
theorem evK_eq : evK E ro n k Q fr σ = ev E ro n k fr σ Q := rfl
theorem ev_nil : ev E ro (n + 1) [] fr σ Q = Q none fr σ := rfl
theorem ev_inBlock {id : Nat} : ev E ro (n + 1) (.inBlock id :: k) fr σ Q = ev E ro n k fr σ Q := rfl
theorem ev_inScope {c : Code} : ev E ro (n + 1) (.inScope c :: k) fr σ Q = ev E ro n k fr σ Q := rfl
theorem ev_inLoop {c : Code} : ev E ro (n + 1) (.inLoop c :: k) fr σ Q = ARun E ro (.inLoop c :: k) fr.anew σ Q := rfl
theorem ev_skip : ev E ro (n + 1) (.code .skip :: k) fr σ Q = ev E ro n k fr σ Q := rfl
theorem ev_label {l : Nat} : ev E ro (n + 1) (.code (.label l) :: k) fr σ Q = ev E ro n k fr σ Q := rfl
theorem ev_seq {x y : Code} : ev E ro (n + 1) (.code (.seq x y) :: k) fr σ Q = ev E ro n (.code x :: .code y :: k) fr σ Q := rfl
theorem ev_block {id : Nat} {x : Code} : ev E ro (n + 1) (.code (.block id x) :: k) fr σ Q = ev E ro n (.code x :: .inBlock id :: k) fr σ Q := rfl
theorem ev_scope {x : Code} : ev E ro (n + 1) (.code (.scope x) :: k) fr σ Q = ev E ro n (.code x :: .inScope x :: k) fr σ Q := rfl
theorem ev_cond {c : Operand} {x y : Code} : ev E ro (n + 1) (.code (.cond c x y) :: k) fr σ Q = match aeval fr c with
      | some (.bool t) => (t = true → ev E ro n (.code x :: k) fr σ Q) ∧ (t = false → ev E ro n (.code y :: k) fr σ Q)
      | _ => False := rfl
theorem ev_exit {id : Nat} : ev E ro (n + 1) (.code (.exit id) :: k) fr σ Q = match exitTo id k with
      | some k' => ev E ro n k' fr σ Q
      | none => Q (some (.exit id)) fr σ := rfl
theorem ev_goto {l : Nat} : ev E ro (n + 1) (.code (.goto l) :: k) fr σ Q = match gotoIn l k with
      | some k' => ev E ro n k' fr σ Q
      | none => False := rfl
theorem ev_ret : ev E ro (n + 1) (.code .ret :: k) fr σ Q = Q (some .ret) fr σ := rfl
theorem ev_region {id : Nat} {ops : List Oper} : ev E ro (n + 1) (.code (.region id ops.toArray false) :: k) fr σ Q = evOps E ops ops fr.anew σ (evK E ro n k Q) := rfl
theorem ev_loop {c : Code} : ev E ro (n + 1) (.code (.loop c) :: k) fr σ Q = ARun E ro (.code (.loop c) :: k) fr.anew σ Q := rfl

theorem exitTo_block {id id' : Nat} : exitTo id (.inBlock id' :: k) = if id' = id then some k else exitTo id k := by
  simp [exitTo, beq_iff_eq]
theorem exitTo_code {id : Nat} {c : Code} : exitTo id (.code c :: k) = exitTo id k := rfl
theorem exitTo_loop {id : Nat} {c : Code} : exitTo id (.inLoop c :: k) = exitTo id k := rfl
theorem exitTo_scope {id : Nat} {c : Code} : exitTo id (.inScope c :: k) = exitTo id k := rfl
theorem exitTo_nil {id : Nat} : exitTo id [] = none := rfl

theorem ev_draw {id : Nat} {ops : List Oper} : ev E ro (n + 1) (.code (.region id ops.toArray true) :: k) fr σ Q = evD E ops (E.ord id).2 fr.anew σ (evK E ro n k Q) := rfl
@[congr] theorem ev_congr {n : Nat} {todo : List Item} {fr fr' : Fr} {σ σ' : List AObj} {Q : Post} (h1 : fr = fr') (h2 : σ = σ') : ev E ro n todo fr σ Q = ev E ro n todo fr' σ' Q := by rw [h1, h2]
@[congr] theorem evK_congr {k : List Item} {Q : Post} {fr fr' : Fr} {σ σ' : List AObj} (h1 : fr = fr') (h2 : σ = σ') : evK E ro n k Q fr σ = evK E ro n k Q fr' σ' := by rw [h1, h2]
end rules

section draws
variable {all : List Oper} {fr : Fr} {σ : List AObj} {Q : Fr → List AObj → Prop} {L : List (Nat × List Nat)} {rs : List Nat}
theorem evD_nil : evD E all [] fr σ Q = Q fr σ := rfl
@[congr] theorem evD_congr {fr' : Fr} {σ' : List AObj} {L L' : List (Nat × List Nat)} (h0 : L = L') (h1 : fr = fr') (h2 : σ = σ') : evD E all L fr σ Q = evD E all L' fr' σ' Q := by rw [h0, h1, h2]
@[congr] theorem evDo_congr {fr' : Fr} {σ' : List AObj} {o o' : Option Oper} (h0 : o = o') (h1 : fr = fr') (h2 : σ = σ') : evDo E all rs L fr σ Q o = evDo E all rs L fr' σ' Q o' := by rw [h0, h1, h2]
@[congr] theorem evNextD_congr {dst : Option Tmp} {fr fr' : Fr} {v v' : AV} {σ σ' : List AObj} (h1 : fr = fr') (h2 : v = v') (h3 : σ = σ') : evNextD E all rs L dst fr Q v σ = evNextD E all rs L dst fr' Q v' σ' := by rw [h1, h2, h3]
@[congr] theorem nthO_congr {i : Nat} : nthO all i = nthO all i := rfl
@[congr] theorem recheck_congr {fr' : Fr} {σ' : List AObj} (h1 : fr = fr') (h2 : σ = σ') : recheck E all fr σ rs = recheck E all fr' σ' rs := by rw [h1, h2]
@[congr] theorem reOK_congr {fr' : Fr} {σ' : List AObj} {o o' : Option Oper} (h0 : o = o') (h1 : fr = fr') (h2 : σ = σ') : reOK E all fr σ o = reOK E all fr' σ' o' := by rw [h0, h1, h2]
theorem nthO_zero {o : Oper} {l : List Oper} : nthO (o :: l) 0 = some o := rfl
theorem nthO_succ {o : Oper} {l : List Oper} {i : Nat} : nthO (o :: l) (i + 1) = nthO l i := rfl
theorem recheck_nil : recheck E all fr σ [] = True := rfl
theorem recheck_cons {r : Nat} : recheck E all fr σ (r :: rs) = (reOK E all fr σ (nthO all r) ∧ recheck E all fr σ rs) := rfl
theorem reOK_plain {d : Tmp} {op : Op} {type : TypeId} {pos : String} {after : Array Edge} : reOK E all fr σ (some ⟨some d, op, type, pos, after, none⟩) = give2 (fun v _ => fr.get d = some v) (hop E.ty fr σ op) := by
  simp only [reOK, wantA]
  cases hop E.ty fr σ op with
  | none => rfl
  | some q => rfl
theorem evDo_plain {dst : Option Tmp} {op : Op} {type : TypeId} {pos : String} {after : Array Edge} : evDo E all rs L fr σ Q (some ⟨dst, op, type, pos, after, none⟩) = evOp E fr σ type op (evNextD E all rs L dst fr Q) := by
  simp [evDo, wantA]
theorem evDp_plain {dst : Option Tmp} {op : Op} {type : TypeId} {pos : String} {after : Array Edge} : evDp E all L fr σ Q (some ⟨dst, op, type, pos, after, none⟩) = evPc E fr σ op (evNextD E all [] L dst fr Q) := by
  simp [evDp, wantA]
theorem evPc_call {f : Operand} {args : Array Operand} {ats : Array TypeId} {X : AV → List AObj → Prop} : evPc E fr σ (.call ⟨.value f, args, ats⟩) X = givP X σ (callP E (aeval fr f) (aevals fr args.toList)) := rfl
def isSelf : List Nat → Nat → Bool
  | [j], i => j == i
  | _, _ => false
theorem isSelf_nil {i : Nat} : isSelf [] i = false := rfl
theorem isSelf_one {i j : Nat} : isSelf [j] i = (j == i) := rfl
theorem isSelf_two {i a b : Nat} {l : List Nat} : isSelf (a :: b :: l) i = false := rfl
theorem isSelf_eq {i : Nat} : ∀ {l : List Nat}, (l == [i]) = isSelf l i
  | [] => rfl
  | [j] => by simp [isSelf]
  | a :: b :: l => by simp [isSelf]
theorem evD_consW {i : Nat} {rs : List Nat} {L : List (Nat × List Nat)} : evD E all ((i, rs) :: L) fr σ Q = evDs E all rs L fr σ Q (nthO all i) (isSelf rs i) := by rw [evD_cons, isSelf_eq]
theorem evDo_guard {dst : Option Tmp} {op : Op} {type : TypeId} {pos : String} {after : Array Edge} {j : Nat} {want : Bool} : evDo E all rs L fr σ Q (some ⟨dst, op, type, pos, after, some (j, want)⟩) =
    match dstOf all j with
    | none => False
    | some d => match fr.get d with
      | some (.bool b) => (b = want → evOp E fr σ type op (evNextD E all rs L dst fr Q)) ∧ (b = !want → evNextD E all rs L dst fr Q (.tup []) σ)
      | some (.tup []) => evNextD E all rs L dst fr Q (.tup []) σ
      | _ => False := by
  simp only [evDo, wantA, dstOf_eq]
  cases dstOf all j with
  | none => rfl
  | some d =>
    simp only
    cases h : fr.get d with
    | none => rfl
    | some v =>
      cases v with
      | bool b => cases b <;> cases want <;> simp
      | tup vs => cases vs <;> simp
      | _ => rfl
theorem evNextD_none {v : AV} : evNextD E all rs L none fr Q v σ = (recheck E all fr σ rs ∧ evD E all L fr σ Q) := rfl
theorem evNextD_some {d : Tmp} {v : AV} : evNextD E all rs L (some d) fr Q v σ = (d < E.N ∧ recheck E all (fr.put d v) σ rs ∧ evD E all L (fr.put d v) σ Q) := rfl
end draws

/-- What a function gives back. -/
def giveR (Q : AV → List AObj → Prop) (σ : List AObj) : Option (List AV) → Prop
  | some vs => Q (oneOf vs) σ
  | none => False
def retPost (E : Env) (rs : List ResultVar) (Q : AV → List AObj → Prop) : Post := fun j fr σ => (j = none ∨ j = some .ret) ∧ giveR Q σ (resAs E fr σ rs)
section rets
variable {rs : List ResultVar} {Q : AV → List AObj → Prop} {fr : Fr} {σ : List AObj}
theorem retPost_ret : retPost E rs Q (some .ret) fr σ = giveR Q σ (resAs E fr σ rs) := by simp [retPost]
theorem retPost_none : retPost E rs Q none fr σ = giveR Q σ (resAs E fr σ rs) := by simp [retPost]
@[congr] theorem retPost_congr {j j' : Option Code} {fr fr' : Fr} {σ σ' : List AObj} (h0 : j = j') (h1 : fr = fr') (h2 : σ = σ') : retPost E rs Q j fr σ = retPost E rs Q j' fr' σ' := by rw [h0, h1, h2]
theorem giveR_some {vs : List AV} : giveR Q σ (some vs) = Q (oneOf vs) σ := rfl
theorem oneOf_one {v : AV} : oneOf [v] = v := rfl
theorem oneOf_nil : oneOf [] = .tup [] := rfl
theorem oneOf_more {u v : AV} {vs : List AV} : oneOf (u :: v :: vs) = .tup (u :: v :: vs) := rfl
end rets

/-- A CALL, FROM THE WALK OF THE BODY. -/
theorem ACalls.of_ev (hE : EnvOK E) {f : FuncId} {fn : Func} {c : Code} {args : List AV} {σ : List AObj} {Q : AV → List AObj → Prop} (kp : Nat → Bool) (hf : E.P.funcs[f]? = some fn) (hb : fn.body = some c) (hN : fn.ntmps = E.N) (hA : args.length ≤ E.N)
    (hC : Callable E.P f) (hO : todoOK E [.code c] = true)
    (h : ev E none 100000 [.code c] ⟨kp, [], number 0 args⟩ σ (retPost E fn.results.toList Q)) : ACalls E.P f args σ Q := by
  refine ACalls.of_run hE kp hf hb hN hA hC ((ev_sound hE hO h).mono fun j fr σ' ⟨h1, h2⟩ => ⟨h1, ?_⟩)
  cases hr : resAs E fr σ' fn.results.toList with
  | none => rw [hr] at h2; exact h2.elim
  | some vs => rw [hr] at h2; exact ⟨vs, rfl, h2⟩

/-- Fewer slots known. -/
def subF : List (Nat × AV) → List (Nat × AV) → Prop
  | [], _ => True
  | (d, v) :: l, sl => lookA sl d = some v ∧ subF l sl
theorem subF_look {sl : List (Nat × AV)} : ∀ {l : List (Nat × AV)}, subF l sl → ∀ t v, lookA l t = some v → lookA sl t = some v
  | [], _, t, v, h => by simp [lookA] at h
  | (d, u) :: l, hs, t, v, h => by
    simp only [lookA] at h
    by_cases e : d = t
    · subst e; rw [if_pos rfl] at h; simp at h; subst h; exact hs.1
    · rw [if_neg e] at h; exact subF_look hs.2 t v h
theorem ARun.sub {kp : Nat → Bool} {tm sl sl' : List (Nat × AV)} {todo : List Item} {σ : List AObj} {Q : Post} (h : ARun E ro todo ⟨kp, [], sl'⟩ σ Q) (hs : subF sl' sl) : ARun E ro todo ⟨kp, tm, sl⟩ σ Q :=
  fun K w a b cs hb hR hF => h K w a b cs hb hR (hF.sub fun t v hv => by
    have hv' : (if kp t = true then lookA sl' t else lookA [] t) = some v := hv
    show (if kp t = true then lookA sl t else lookA tm t) = some v
    by_cases hk : kp t = true
    · rw [if_pos hk] at hv' ⊢; exact subF_look hs t v hv'
    · rw [if_neg hk] at hv'; cases hv')
/-- A loop. -/
theorem ARun.loopI {c : Code} {k : List Item} {fr : Fr} {σ : List AObj} {Q : Post} {α : Type} (I : α → Fr → List AObj → Prop) (m : α → Nat) (x0 : α) (h0 : I x0 fr σ)
    (hs : ∀ x fr σ, I x fr σ → (∀ y fr' σ', m y < m x → I y fr' σ' → ARun E ro (.inLoop c :: k) fr' σ' Q) → ARun E ro (.code c :: .inLoop c :: k) fr σ Q) : ARun E ro (.code (.loop c) :: k) fr σ Q := by
  have key : ∀ n x fr σ, m x = n → I x fr σ → ARun E ro (.code c :: .inLoop c :: k) fr σ Q := by
    intro n
    induction n using Nat.strongRecOn with
    | _ n ih =>
      intro x fr σ hm hi
      exact hs x fr σ hi fun y fr' σ' hlt hy => .inLoop (ih (m y) (by omega) y fr' σ' rfl hy)
  exact .loop (key _ x0 fr σ rfl h0)

/-- Lists of integers. -/
def ints (t : Tok) (xs : List Int) : AV := .list t 1 (xs.map (AV.int .i64))
theorem idx_map {α : Type} {f : α → AV} {l : List α} {i : Nat} (h : i < l.length) : idx (l.map f) (i : Int) = some (f l[i]) := by
  unfold idx
  rw [if_pos (by omega)]
  simp [h]
end Go.Mu
set_option linter.unusedSimpArgs false
set_option linter.unusedVariables false
namespace Go.Mu
open Go

/-- A value that names objects below a bound alone. -/
inductive Lt (n : Nat) : AV → Prop
  | bool (b : Bool) : Lt n (.bool b)
  | int (k : IntKind) (i : Int) : Lt n (.int k i)
  | str (s : ByteArray) : Lt n (.str s)
  | ptr (r off : Nat) (h : r < n) : Lt n (.ptr r off)
  | nilptr : Lt n .nilptr
  | eptr (cs : List AV) (off : Nat) (h : ∀ j (hj : j < cs.length), Lt n (cs[j])) : Lt n (.eptr cs off)
  | list (t : Tok) (sz : Nat) (xs : List AV) (ht : ∀ id, t = .own id → id < n)
      (h : ∀ i j (hi : i < xs.length) (hj : j < (xs[i]).cells.length), Lt n ((xs[i]).cells[j])) : Lt n (.list t sz xs)
  | arr (r off len : Nat) (h : r < n) : Lt n (.arr r off len)
  | vec (r len : Nat) (h : r < n) : Lt n (.vec r len)
  | vptr (r m sz i off : Nat) (h : r < n) : Lt n (.vptr r m sz i off)
  | map (r : Nat) (h : r < n) : Lt n (.map r)
  | nilmap : Lt n .nilmap
  | fn (f : Fn) (first cap : List AV) (g1 : ∀ i (h : i < first.length), Lt n (first[i])) (g2 : ∀ i (h : i < cap.length), Lt n (cap[i])) : Lt n (.fn f first cap)
  | yield (r : Nat) (h : r < n) : Lt n (.yield r)
  | nilfn : Lt n .nilfn
  | iface (t : TypeId) (v : AV) (h : Lt n v) : Lt n (.iface t v)
  | niliface : Lt n .niliface
  | agg (cs : List AV) (h : ∀ i (h : i < cs.length), Lt n (cs[i])) : Lt n (.agg cs)
  | tup (cs : List AV) (h : ∀ i (h : i < cs.length), Lt n (cs[i])) : Lt n (.tup cs)

theorem VR.lt {K : Kr} {n : Nat} {v : AV} {c : Value} (h : VR K n v c) : Lt n v := by
  induction h with
  | bool b => exact .bool b
  | int k i => exact .int k i
  | str s => exact .str s
  | ptr r off h => exact .ptr r off h
  | nilptr => exact .nilptr
  | eptr cs off b o f hS h1 _ ih => exact .eptr cs off ih
  | list t sz xs a cap f hl ht ha hs h1 _ ih => exact .list t sz xs (fun id e => by subst e; exact ht.1) ih
  | arr r off len a cap h hl ha => exact .arr r off len h
  | vec r len a cap h hl ht ha => exact .vec r len h
  | vptr r m sz i off b o cap h ht => exact .vptr r m sz i off h
  | map r h => exact .map r h
  | nilmap => exact .nilmap
  | fn f first cap first' cap' h1 h2 _ _ i1 i2 => exact .fn f first cap (fun i h => i1 i h (by omega)) (fun i h => i2 i h (by omega))
  | yield r h => exact .yield r h
  | nilfn => exact .nilfn
  | iface t v c _ ih => exact .iface t v ih
  | niliface => exact .niliface
  | agg cs cs' hl h1 _ ih => exact .agg cs fun i h => ih i h (by omega)
  | tup cs cs' hl _ ih => exact .tup cs fun i h => ih i h (by omega)

theorem VR.down {K : Kr} {n n' : Nat} {v : AV} {c : Value} (h : VR K n' v c) (h0 : Lt n v) : VR K n v c := by
  induction h with
  | bool b => exact .bool b
  | int k i => exact .int k i
  | str s => exact .str s
  | ptr r off h => cases h0 with | ptr _ _ h0 => exact .ptr r off h0
  | nilptr => exact .nilptr
  | eptr cs off b o f hS h1 _ ih => cases h0 with | eptr _ _ h0 => exact .eptr cs off b o f hS h1 fun j hj => ih j hj (h0 j hj)
  | list t sz xs a cap f hl ht ha hs h1 _ ih =>
    cases h0 with
    | list _ _ _ h2 h0 =>
      exact .list t sz xs a cap f hl (by
        cases t with
        | no => trivial
        | full => exact ht
        | own id => exact ⟨h2 id rfl, ht.2⟩) ha hs h1 fun i j hi hj => ih i j hi hj (h0 i j hi hj)
  | arr r off len a cap h hl ha => cases h0 with | arr _ _ _ h0 => exact .arr r off len a cap h0 hl ha
  | vec r len a cap h hl ht ha => cases h0 with | vec _ _ h0 => exact .vec r len a cap h0 hl ht ha
  | vptr r m sz i off b o cap h ht => cases h0 with | vptr _ _ _ _ _ h0 => exact .vptr r m sz i off b o cap h0 ht
  | map r h => cases h0 with | map _ h0 => exact .map r h0
  | nilmap => exact .nilmap
  | fn f first cap first' cap' h1 h2 _ _ i1 i2 => cases h0 with | fn _ _ _ g1 g2 => exact .fn f first cap first' cap' h1 h2 (fun i h h' => i1 i h h' (g1 i h)) (fun i h h' => i2 i h h' (g2 i h))
  | yield r h => cases h0 with | yield _ h0 => exact .yield r h0
  | nilfn => exact .nilfn
  | iface t v c _ ih => cases h0 with | iface _ _ h0 => exact .iface t v c (ih h0)
  | niliface => exact .niliface
  | agg cs cs' hl h1 _ ih => cases h0 with | agg _ h0 => exact .agg cs cs' hl h1 fun i h h' => ih i h h' (h0 i h)
  | tup cs cs' hl _ ih => cases h0 with | tup _ h0 => exact .tup cs cs' hl fun i h h' => ih i h h' (h0 i h)

theorem ObjR.down {K0 K : Kr} {n n' : Nat} {w0 w : World} {r : Nat} {o : AObj} (h0 : ObjR K0 n w0 r o) (h : ObjR K n' w r o) : ObjR K n w r o := by
  cases o with
  | cells cs =>
    obtain ⟨cc, E, h1, h2, h3, h4⟩ := h
    obtain ⟨cc0, E0, _, g2, _⟩ := h0
    exact ⟨cc, E, h1, ⟨h2.1, fun i a b => (h2.2 i a b).down (g2.2 i a (by have := g2.1; omega)).lt⟩, h3, h4⟩
  | tail m sz => exact h
  | vec sz xs =>
    obtain ⟨a, cap, h1, h2, h3, h4, h5⟩ := h
    obtain ⟨a0, cap0, g1, g2, _, _, g5⟩ := h0
    have ltv : ∀ i (h : i < (xs.flatMap AV.cells).length), Lt n (xs.flatMap AV.cells)[i] := fun i hi => by
      have hx : 0 < xs.length := by
        rcases Nat.eq_zero_or_pos xs.length with e | e
        · rw [List.length_eq_zero_iff.1 e] at hi; simp at hi
        · exact e
      obtain ⟨_, _, _, _, _, _, _, k4, _⟩ := g5 (by omega)
      exact (k4.2 i hi (by rw [← k4.1]; exact hi)).lt
    refine ⟨a, cap, h1, h2, h3, h4, fun hc => ?_⟩
    obtain ⟨b, o, cc, E, k1, k2, k3, k4, k5, k6⟩ := h5 hc
    exact ⟨b, o, cc, E, k1, k2, k3, ⟨k4.1, fun i a b => (k4.2 i a b).down (ltv i a)⟩, k5, k6⟩
  | map es =>
    obtain ⟨es', clock, h1, h2, h3, h4⟩ := h
    obtain ⟨es0, clock0, _, g2, _, g4⟩ := h0
    refine ⟨es', clock, h1, h2, h3, fun i a b => ?_⟩
    obtain ⟨k1, k2, k3⟩ := h4 i a b
    obtain ⟨l1, l2, _⟩ := g4 i a (by omega)
    exact ⟨k1.down l1.lt, k2.down l2.lt, k3⟩
  | iter m c s =>
    obtain ⟨m', h1, h2⟩ := h
    obtain ⟨m0, _, g2⟩ := h0
    refine ⟨m', h1, ?_⟩
    cases m with
    | none => exact h2
    | some q => exact ⟨g2.1, h2.2⟩
  | siter s p => exact h
  | loop st pend fn params assign body N fr =>
    obtain ⟨l, h1, h2, h3, h4, h5, h6, h7, h8⟩ := h
    obtain ⟨l0, _, _, _, _, _, _, _, g8⟩ := h0
    refine ⟨l, h1, h2, h3, h4, h5, h6, h7, h8.1, fun t v hv => ?_⟩
    obtain ⟨c, k1, k2⟩ := h8.2 t v hv
    obtain ⟨c0, _, l2⟩ := g8.2 t v hv
    exact ⟨c, k1, k2.down l2.lt⟩
  | dead => trivial

/-- A call's dead objects are dropped. -/
theorem R.drop {K0 K : Kr} {σ junk : List AObj} {w0 w : World} (h0 : R K0 σ w0) (h : R K (σ ++ junk) w) (hS : Step K0 σ w0 K (σ ++ junk) w) : R K σ w ∧ Step K0 σ w0 K σ w := by
  have hlt : ∀ {r o}, σ[r]? = some o → r < σ.length := fun h => (List.getElem?_eq_some_iff.1 h).1
  have hget : ∀ r o, σ[r]? = some o → (σ ++ junk)[r]? = some o := fun r o hr => by rw [List.getElem?_append_left (hlt hr)]; exact hr
  refine ⟨⟨h.stab, fun r o hr => (h0.obj r o hr).down (h.obj r o (hget r o hr)), fun r r' o o' b h1 h2 => h.inj r r' o o' b (hget r o h1) (hget r' o' h2), fun g cs hg => ⟨(h.lay g cs hg).1, fun r o hr => (h.lay g cs hg).2 r o (hget r o hr)⟩⟩, ?_⟩
  exact ⟨hS.ext, Nat.le_refl _, hS.size, fun b hb hf => by
    obtain ⟨m1, m2, m3⟩ := hS.keep b hb hf
    exact ⟨m1, fun r o hr => m2 r o (hget r o hr), m3⟩, hS.os, hS.tape, hS.output, hS.froz⟩

/-- Less is known of a value. -/
def Weak (v v' : AV) : Prop := ∀ K n c, VR K n v c → VR K n v' c
theorem Weak.refl (v : AV) : Weak v v := fun _ _ _ h => h
theorem Weak.no {t : Tok} {sz : Nat} {xs : List AV} : Weak (.list t sz xs) (.list .no sz xs) := fun K n c h => by
  cases h with
  | list _ _ _ a cap f hl ht ha hs h1 h => exact .list .no sz xs a cap f hl trivial ha hs h1 h
theorem Weak.agg {cs cs' : List AV} (hl : cs.length = cs'.length) (h : ∀ i (h : i < cs.length) (h' : i < cs'.length), Weak (cs[i]) (cs'[i])) : Weak (.agg cs) (.agg cs') := fun K n c hv => by
  cases hv with
  | agg _ cc hl' h1 h2 => exact .agg cs' cc (by omega) h1 fun i a b => h i (by omega) a K n _ (h2 i (by omega) b)
theorem Weak.tup {cs cs' : List AV} (hl : cs.length = cs'.length) (h : ∀ i (h : i < cs.length) (h' : i < cs'.length), Weak (cs[i]) (cs'[i])) : Weak (.tup cs) (.tup cs') := fun K n c hv => by
  cases hv with
  | tup _ cc hl' h2 => exact .tup cs' cc (by omega) fun i a b => h i (by omega) a K n _ (h2 i (by omega) b)

/-- A CALL THAT LEAVES THE OBJECTS AS THEY WERE. -/
theorem ACalls.clean {P : Program} {f : FuncId} {args : List AV} {σ : List AObj} {Q : AV → List AObj → Prop} (h : ACalls P f args σ fun v σ' => ∃ v' junk, σ' = σ ++ junk ∧ Weak v v' ∧ Lt σ.length v' ∧ Q v' σ) : ACalls P f args σ Q := by
  refine ⟨h.1, fun K w cargs hR hV => (h.2 K w cargs hR hV).mono ?_⟩
  rintro e w' ⟨v, c, σ', K', he, ⟨v', junk, rfl, hw, hlt, hq⟩, hv, hR', hS⟩
  obtain ⟨r1, r2⟩ := hR.drop hR' hS
  exact ⟨v', c, σ, K', he, hq, (hw _ _ _ hv).down hlt, r1, r2⟩

theorem Lt.ints {n : Nat} {xs : List Int} : Lt n (ints .no xs) := .list _ _ _ (fun id e => by cases e) fun i j hi hj => by
  simp [AV.cells] at hj ⊢
  exact .int _ _

/-- A step of the mind: the objects are looked at in another way. -/
theorem ARun.mind {E : Env} {ro : Option Nat} {todo : List Item} {fr fr' : Fr} {σ σ' : List AObj} {Q : Post} (h : ARun E ro todo fr' σ' Q)
    (hm : ∀ (K : Kr) (w : World) (tmps : Array Value), R K σ w → FR K σ.length E.N fr tmps → ∃ K', R K' σ' w ∧ FR K' σ'.length E.N fr' tmps ∧ Step K σ w K' σ' w) : ARun E ro todo fr σ Q := by
  intro K w a b cs hb hR hF
  obtain ⟨K', h1, h2, h3⟩ := hm K w a.tmps hR hF
  obtain ⟨K2, σ2, fr2, w2, a2, t2, j, ms, g1, g2, g3, g4, g5, g6, g7, g8⟩ := h K' w a b cs (hb.mono h3.ext h3.len) h1 h2
  exact ⟨K2, σ2, fr2, w2, a2, t2, j, ms, g1, g2, g3, g4, g5, h3.trans g6, g7, g8⟩

/-- An empty list without spare room becomes a list of our own. -/
theorem ARun.ghost {E : Env} {ro : Option Nat} {todo : List Item} {kp : Nat → Bool} {tm sl : List (Nat × AV)} {σ : List AObj} {Q : Post} (d sz : Nat) {sz0 : Nat} (hd : kp d = true) (hl : lookA sl d = some (.list .full sz0 []))
    (h : ARun E ro todo ⟨kp, [], ins sl d (.list (.own σ.length) sz [])⟩ (σ ++ [.tail 0 sz]) Q) : ARun E ro todo ⟨kp, tm, sl⟩ σ Q := by
  refine h.mind fun K w tmps hR hF => ?_
  obtain ⟨c, hc, hv⟩ := hF.2 d (.list .full sz0 []) (by show (if kp d = true then lookA sl d else lookA tm d) = _; rw [if_pos hd]; exact hl)
  cases hv with
  | list _ _ _ a cap f hl' ht ha hs h1 hh =>
    have hcap : cap = 0 := ht
    subst hcap
    let K' : Kr := { K with tl := fun q => if q = σ.length then fun m => if m = 0 then some (a, 0) else none else K.tl q }
    have he : Ext σ.length K K' := ⟨fun _ _ => rfl, fun r hr m x hx => by
      show (if r = σ.length then _ else K.tl r) m = some x
      rw [if_neg (by omega)]; exact hx, fun _ _ _ h => h⟩
    have htl : K'.tl σ.length = fun m => if m = 0 then some (a, 0) else none := by
      show (if σ.length = σ.length then _ else _) = _
      rw [if_pos rfl]
    obtain ⟨r1, r2⟩ := hR.ghostAt (σ' := σ ++ [.tail 0 sz]) σ.length (.tail 0 sz) K' he (by simp) (by simp) (fun q o' hq hg => by
      rw [List.getElem?_append] at hg
      split at hg
      · exact hg
      · cases hk : q - σ.length with
        | zero => omega
        | succ j => rw [hk] at hg; simp at hg) (fun q hq => by show (if q = σ.length then _ else K.tl q) = _; rw [if_neg hq]) rfl (fun b hb => by
      obtain ⟨a', cap', g1, g2, _⟩ := hb
      rw [htl] at g1; simp at g1; omega) ⟨a, 0, by rw [htl]; rfl, Nat.le_refl _, fun k hk => by rw [htl]; simp; omega, fun h => by omega⟩
    refine ⟨K', r1, ⟨hF.1, fun t v hv => ?_⟩, r2⟩
    have hv' : (if kp t = true then lookA (ins sl d (.list (.own σ.length) sz [])) t else lookA [] t) = some v := hv
    by_cases hk : kp t = true
    · rw [if_pos hk, lookA_ins] at hv'
      by_cases e : d = t
      · subst e
        rw [if_pos rfl] at hv'; simp at hv'; subst hv'
        refine ⟨_, hc, ?_⟩
        exact .list (.own σ.length) sz [] a 0 f (Nat.le_refl _) ⟨by simp, by rw [htl]; rfl⟩ (fun h => absurd rfl h) (fun i hi => by simp at hi) (fun i j hi => by simp at hi) (fun i j hi => by simp at hi)
      · rw [if_neg e] at hv'
        obtain ⟨c', k1, k2⟩ := hF.2 t v (by show (if kp t = true then lookA sl t else lookA tm t) = _; rw [if_pos hk]; exact hv')
        exact ⟨c', k1, k2.mono he (by simp)⟩
    · rw [if_neg hk] at hv'; cases hv'

theorem hset_hset {σ : List AObj} {r : Nat} {a b : AObj} : hset (hset σ r a) r b = hset σ r b := by unfold hset; simp
theorem hset_same {σ : List AObj} {r : Nat} {x : AObj} (h : hget σ r = some x) : hset σ r x = σ := by
  unfold hget at h; unfold hset
  obtain ⟨h1, h2⟩ := List.getElem?_eq_some_iff.1 h
  rw [← h2]; exact List.set_getElem_self h1
theorem hget_set {σ : List AObj} {r : Nat} {x : AObj} (h : hget σ r = some x) (o : AObj) : hget (hset σ r o) r = some o := by
  unfold hget at h; unfold hget hset
  have := (List.getElem?_eq_some_iff.1 h).1
  simp [this]
theorem hget_ne {σ : List AObj} {r q : Nat} {o : AObj} (h : r ≠ q) : hget (hset σ r o) q = hget σ q := by
  unfold hget hset; rw [List.getElem?_set_ne h]
theorem length_hset {σ : List AObj} {r : Nat} {o : AObj} : (hset σ r o).length = σ.length := by unfold hset; simp

theorem hget_at0 {σ l : List AObj} : hget (σ ++ l) σ.length = l[0]? := by unfold hget; rw [List.getElem?_append_right (by omega)]; simp
theorem hget_at {σ l : List AObj} {k : Nat} : hget (σ ++ l) (σ.length + k) = l[k]? := by unfold hget; rw [List.getElem?_append_right (by omega)]; simp
theorem hset_at0 {σ l : List AObj} {o : AObj} : hset (σ ++ l) σ.length o = σ ++ l.set 0 o := by unfold hset; rw [List.set_append_right _ _ (by omega)]; simp
theorem hset_at {σ l : List AObj} {k : Nat} {o : AObj} : hset (σ ++ l) (σ.length + k) o = σ ++ l.set k o := by unfold hset; rw [List.set_append_right _ _ (by omega)]; simp
end Go.Mu
set_option linter.unusedSimpArgs false
set_option linter.unusedVariables false
namespace Go.Mu
open Go

variable {E : Env} {σ : List AObj} {Q : Post}

theorem cell_of_loop {w : World} {b p : Nat} {l : Loop} (h : w.heap[b]? = some (.loop l)) : w.cell? ⟨b, p, none⟩ = none := by simp [World.cell?, h]

/-- The record of a loop is turned. -/
theorem R.turnLoop {K : Kr} {w : World} (hR : R K σ w) {r : Nat} {st : LoopState} {pend : Option Code} {fn : FuncId} {ps : Array Tmp} {as body : Code} {N : Nat} {fr : Fr} (hg : hget σ r = some (.loop st pend fn ps as body N fr)) :
    ∃ l : Loop, w.heap[K.φ r]? = some (.loop l) ∧ l.state = st ∧ l.pending = pend ∧ l.fn = fn ∧ l.params = ps ∧ l.assign = as ∧ l.body = body ∧ FR K σ.length N fr l.tmps ∧
      (∀ st' pend', R K (hset σ r (.loop st' pend' fn ps as body N fr)) { w with heap := w.heap.setIfInBounds (K.φ r) (.loop { l with state := st', pending := pend' }) } ∧
        Step K σ w K (hset σ r (.loop st' pend' fn ps as body N fr)) { w with heap := w.heap.setIfInBounds (K.φ r) (.loop { l with state := st', pending := pend' }) }) ∧
      (∀ l', R K (hset σ r .dead) { w with heap := w.heap.setIfInBounds (K.φ r) (.loop l') } ∧ Step K σ w K (hset σ r .dead) { w with heap := w.heap.setIfInBounds (K.φ r) (.loop l') }) := by
  have hr : r < σ.length := (List.getElem?_eq_some_iff.1 hg).1
  obtain ⟨l, h1, h2, h3, h4, h5, h6, h7, h8⟩ := hR.obj r _ hg
  have hlt := lt_of_heap h1
  have hS : ∀ p, K.S (K.φ r) p = none := fun p => by
    cases hk : K.S (K.φ r) p with
    | none => rfl
    | some v => have := hR.stab _ _ _ hk; rw [cell_of_loop h1] at this; cases this
  have hother : ∀ (o : Obj) b, b ≠ K.φ r → ({ w with heap := w.heap.setIfInBounds (K.φ r) o } : World).heap[b]? = w.heap[b]? := fun o b hb => by
    show (w.heap.setIfInBounds (K.φ r) o)[b]? = _
    rw [Array.getElem?_setIfInBounds_ne (Ne.symm hb)]
  have hself : ∀ (o : Obj), ({ w with heap := w.heap.setIfInBounds (K.φ r) o } : World).heap[K.φ r]? = some o := fun o => by
    show (w.heap.setIfInBounds (K.φ r) o)[K.φ r]? = _
    simp [hlt]
  refine ⟨l, h1, h2, h3, h4, h5, h6, h7, h8, fun st' pend' => ?_, fun l' => ?_⟩
  · exact hR.turn hg (K.φ r) rfl K (.refl _ _) (fun _ _ => rfl) (fun b hb => hother _ b hb) (by simp) (fun _ _ _ => rfl) (fun p v hv => by rw [hS p] at hv; cases hv) (fun b hb => hb)
      ⟨_, hself _, rfl, rfl, h4, h5, h6, h7, h8⟩ rfl rfl rfl (by rw [hself, h1]; rfl)
  · exact hR.turn hg (K.φ r) rfl K (.refl _ _) (fun _ _ => rfl) (fun b hb => hother _ b hb) (by simp) (fun _ _ _ => rfl) (fun p v hv => by rw [hS p] at hv; cases hv) (fun b hb => hb.elim) trivial rfl rfl rfl (by rw [hself, h1]; rfl)

theorem run_getLoop {P : Program} {w : World} {b : Nat} {l : Loop} (h : w.heap[b]? = some (.loop l)) : (Instr.getLoop b).run P w = .ok l w := by
  simp [Instr.getLoop, getObj, Sem.run, h]
theorem run_setLoop {P : Program} {w : World} {b : Nat} {l : Loop} (o : Obj) (h : w.heap[b]? = some (.loop l)) : (setObj b o).run P w = .ok () { w with heap := w.heap.setIfInBounds b o } := by
  simp [setObj, Sem.run, h]
theorem run_beginRound {P : Program} {w : World} {b : Nat} {l : Loop} (h : w.heap[b]? = some (.loop l)) (hs : l.state = .ready) :
    (Instr.beginRound b).run P w = .ok () { w with heap := w.heap.setIfInBounds b (.loop { l with state := .busy }) } := by
  simp [Instr.beginRound, Sem.run_bind, run_getLoop h, run_setLoop _ h, Result.andThen_ok, hs]
theorem run_endRound {P : Program} {w : World} {b : Nat} {l : Loop} (h : w.heap[b]? = some (.loop l)) (j : Option Code) :
    (Instr.endRound b j).run P w = .ok (.bool j.isNone) { w with heap := w.heap.setIfInBounds b (.loop { l with state := if j.isNone then .ready else .done, pending := j }) } := by
  simp [Instr.endRound, Sem.run_bind, run_getLoop h, run_setLoop _ h, Result.andThen_ok]
theorem run_endLoop {P : Program} {w : World} {b : Nat} {l : Loop} (h : w.heap[b]? = some (.loop l)) (hs : l.state ≠ .busy) :
    (Instr.endLoop b).run P w = .ok l.pending { w with heap := w.heap.setIfInBounds b (.loop { l with state := .exhausted }) } := by
  simp [Instr.endLoop, Sem.run_bind, run_getLoop h, run_setLoop _ h, Result.andThen_ok]
  intro hb; exact absurd hb hs

/-- What yield's arguments do to the slots. -/
def frIn : Fr → List Tmp → List AV → Fr
  | fr, t :: ts, v :: vs => frIn (fr.put t v) ts vs
  | fr, _, _ => fr
theorem frIn_sound {K : Kr} {n N : Nat} : ∀ {ts : List Tmp} {vs : List AV} {cs : List Value} {fr : Fr} {tmps : Array Value}, (∀ t ∈ ts, t < N) → VRs K n vs cs → FR K n N fr tmps → FR K n N (frIn fr ts vs) ((ts.zip cs).foldl (fun tmps p => tmps.setIfInBounds p.1 p.2) tmps)
  | [], _, _, _, _, _, _, h => h
  | t :: ts, [], cs, fr, tmps, ht, hv, h => by
    have : cs = [] := List.length_eq_zero_iff.1 hv.1.symm
    subst this; exact h
  | t :: ts, v :: vs, [], fr, tmps, ht, hv, h => absurd hv.1 (by simp)
  | t :: ts, v :: vs, c :: cs, fr, tmps, ht, hv, h => by
    have h1 : FR K n N (fr.put t v) (({ tmps := tmps, defers := [] } : Act).put (some t) c).tmps := FR.put (a := { tmps := tmps, defers := [] }) h (ht t (by simp)) hv.head
    exact frIn_sound (ts := ts) (vs := vs) (cs := cs) (fun t ht' => ht t (by simp [ht'])) ⟨by have := hv.1; simp at this; exact this, fun i a b => hv.2 (i + 1) (by simp; exact a) (by simp; exact b)⟩ h1

/-- The body of a round begins. -/
theorem ARun.beginRound {r : Nat} {k : List Item} {pend : Option Code} {fn : FuncId} {ps : Array Tmp} {as body : Code} {N : Nat} {fr fr0 : Fr} (hg : hget σ r = some (.loop .ready pend fn ps as body N fr0))
    (h : ARun E (some r) k fr (hset σ r (.loop .busy pend fn ps as body N fr0)) Q) : ARun E (some r) (.beginRound :: k) fr σ Q := by
  intro K w a b cs hb hR hF
  obtain ⟨l, h1, h2, h3, h4, h5, h6, h7, h8, h9, _⟩ := hR.turnLoop hg
  obtain ⟨r1, r2⟩ := h9 .busy l.pending
  have hset : hset σ r (.loop .busy l.pending fn ps as body N fr0) = hset σ r (.loop .busy pend fn ps as body N fr0) := by rw [h3]
  rw [hset] at r1 r2
  obtain ⟨K2, σ2, fr2, w2, a2, t2, j, ms, g1, g2, g3, g4, g5, g6, g7, g8⟩ := h K _ a b cs (hb.mono r2.ext r2.len) r1 (hF.mono r2.ext r2.len)
  refine ⟨K2, σ2, fr2, w2, a2, t2, j, ms, g1, .head (stepR_beginRound hb.2.1 (run_beginRound h1 h2)) g2, g3, g4, g5, r2.trans g6, g7, ?_⟩
  exact ⟨g8.nodup, fun q hq => Nat.le_trans r2.size (g8.lo q hq), g8.heap, g8.free⟩

/-- A CALL OF YIELD: a round. -/
theorem AYield.of {r : Nat} {args : List AV} {pend : Option Code} {fn : FuncId} {ps : Array Tmp} {as body : Code} {fr : Fr} {Y : AV → List AObj → Prop} (hg : hget σ r = some (.loop .ready pend fn ps as body E.N fr)) (hl : args.length = ps.size) (hN : ∀ t ∈ ps.toList, t < E.N)
    (h : ARun E (some r) [.code as, .beginRound, .code body] (frIn fr ps.toList args) σ fun j fr2 σ2 => (∀ t, j ≠ some (.goto t)) ∧ ∃ pend', hget σ2 r = some (.loop .busy pend' fn ps as body E.N fr) ∧ Y (.bool j.isNone) (hset σ2 r (.loop (if j.isNone then .ready else .done) j fn ps as body E.N fr))) : AYield E.P r args σ Y := by
  intro K w cargs hR hV
  obtain ⟨l, h1, h2, h3, h4, h5, h6, h7, h8, h9, _⟩ := hR.turnLoop hg
  have hr : r < σ.length := (List.getElem?_eq_some_iff.1 hg).1
  have hcl : cargs.size = args.length := by have := hV.1; simpa using this.symm
  let tmps := ((ps.toList.zip cargs.toList).foldl (fun tmps p => tmps.setIfInBounds p.1 p.2) l.tmps)
  refine ⟨fn, tmps, as, body, ?_, ?_⟩
  · simp only [Instr.yield, Sem.run_bind, run_getLoop h1, Result.andThen_ok, h5, h4, h6, h7]
    rw [if_neg (by omega)]
    simp only [Sem.run_pure, tmps]
    congr 2
    rw [← Array.foldl_toList]
    simp
  · refine ⟨trivial, fun c cs _ => ?_⟩
    let b : Frame := { (default : Frame) with fn := fn, kind := .normal, roundOf := some (K.φ r) }
    have hb0 : Frame.round (K.φ r) fn tmps as body .normal = b.atR { tmps := tmps, defers := [] } [.code as, .beginRound, .code body] := by
      simp [Frame.round, Frame.atR, b]
    obtain ⟨K2, σ2, fr2, w2, a2, t2, j, ms, g1, g2, ⟨g3, pend', g3', g3''⟩, g4, g5, g6, g7, g8⟩ := h K w { tmps := tmps, defers := [] } b (c :: cs) ⟨hr, rfl, rfl⟩ hR (frIn_sound hN hV h8)
    obtain ⟨l2, k1, k2, k3, k4, k5, k6, k7, k8, k9, _⟩ := g4.turnLoop g3'
    have hφ : K2.φ r = K.φ r := g6.ext.φ r hr
    obtain ⟨m1, m2⟩ := k9 (if j.isNone then .ready else .done) j
    rw [hφ] at k1 m1 m2
    have hend := run_endRound (P := E.P) k1 j
    refine ⟨.returned (.bool j.isNone), _, ⟨.bool j.isNone, .bool j.isNone, _, K2, rfl, g3'', .bool _, m1, g6.trans m2⟩, ?_⟩
    rw [hb0]
    refine comesIn_wide.2 (show Steps _ _ _ from g2.trans ?_)
    cases g1 with
    | nil => exact .one (stepR_round_end rfl rfl hend)
    | ret k => exact .one (stepR_round_ret rfl rfl hend)
    | exit id k hk => exact .one (stepR_round_exit rfl rfl hk hend)

/-- A RANGE OVER A FUNCTION. -/
theorem ARun.rangeFunc {f : Operand} {ps : Array Tmp} {as body : Code} {k : List Item} {fr : Fr} {g : FuncId} {p q : List AV} (hf : aeval fr f = some (.fn (.func g) p q))
    (h : ∀ fn, ACalls E.P g (p ++ [.yield σ.length] ++ q) (σ ++ [.loop .ready none fn ps as body E.N fr]) fun v σ' => ∃ st pend, st ≠ .busy ∧ hget σ' σ.length = some (.loop st pend fn ps as body E.N fr) ∧
      ARun E none ((pend.map Item.code).toList ++ k) fr (hset σ' σ.length .dead) Q) : ARun E none (.code (.rangeFunc f ps as body) :: k) fr σ Q := by
  intro K w a b cs hb hR hF
  have hb : b.roundOf = none := hb
  -- the block of the deferred calls
  let w1 := w.alloc (.deferred (some []))
  obtain ⟨r1, s1⟩ := hR.newS (.deferred (some [])) K (.refl _ _) rfl (fun b p v hv => .inl hv)
  have hfree1 : Free K σ w.heap.size := fun r o hr hb' => by have := (hR.obj r o hr).blk_lt hb'; omega
  have hh1 : w1.heap[w.heap.size]? = some (.deferred (some [])) := heap_alloc_new w _
  have hsz1 : w1.heap.size = w.heap.size + 1 := heap_alloc_size w _
  -- the loop's record
  let rec0 : Loop := { state := .ready, pending := none, fn := b.fn, tmps := a.tmps, params := ps, assign := as, body := body, defers := w.heap.size }
  let w2 := w1.alloc (.loop rec0)
  have hF1 : FR K σ.length E.N fr a.tmps := hF
  obtain ⟨r2, s2⟩ := r1.new (.loop .ready none b.fn ps as body E.N fr) (.loop rec0) (K.setφ σ.length w1.heap.size) (Ext.setφ K _ _) (fun _ _ => rfl) (fun b p v hv => .inl hv) (fun b hb => by
    have : b = (K.setφ σ.length w1.heap.size).φ σ.length := hb
    simpa only [Kr.setφ, if_true] using this)
    ⟨rec0, by simp only [Kr.setφ, if_true]; exact heap_alloc_new w1 _, rfl, rfl, rfl, rfl, rfl, rfl, hF1.mono (Ext.setφ K _ _) (by omega)⟩
  have henter : (Instr.enterLoop b.fn a.tmps ps as body b.roundOf).run E.P w = .ok (w1.heap.size, [mark w.heap.size]) w2 := by
    rw [hb]; rfl
  have hfv := aeval_sound hF hf
  generalize hfe : a.eval f = fv at hfv
  cases hfv with
  | fn _ _ _ p' q' l1 l2 g1 g2 =>
    have hres : (resolve a.eval (rangeCall f w1.heap.size) 0).run E.P w2 = .ok ⟨.fn (.func g) q'.toArray, p'.toArray ++ #[.func (.yield w1.heap.size) #[] #[]]⟩ w2 := by
      simp only [resolve, rangeCall, hfe, Deferred.ofValue, Sem.run_bind, Sem.run_pure, Result.andThen_ok]
      simp [Act.eval]
    have hA := h b.fn
    have hinv : (invoke (.fn (.func g) q'.toArray) (p'.toArray ++ #[.func (.yield w1.heap.size) #[] #[]])).run E.P w2 = .ok (.enter g (p'.toArray ++ #[.func (.yield w1.heap.size) #[] #[]] ++ q'.toArray)) w2 := by
      simp only [invoke]; exact hA.1 _ _
    have hstep := stepR_rangeFunc (P := E.P) (b := b) (a := a) (k := k) (cs := cs) henter hres hinv
    have hn2 : σ.length ≤ (σ ++ [AObj.loop .ready none b.fn ps as body E.N fr]).length := by simp
    have hVy : VR (K.setφ σ.length w1.heap.size) (σ ++ [AObj.loop .ready none b.fn ps as body E.N fr]).length (.yield σ.length) (.func (.yield w1.heap.size) #[] #[]) := by
      have := VR.yield (K := K.setφ σ.length w1.heap.size) (n := (σ ++ [AObj.loop .ready none b.fn ps as body E.N fr]).length) σ.length (by simp)
      simpa only [Kr.setφ, if_true] using this
    have hp : VRs (K.setφ σ.length w1.heap.size) (σ ++ [AObj.loop .ready none b.fn ps as body E.N fr]).length p p' := VRs.mono ⟨l1, g1⟩ s2.ext hn2
    have hq : VRs (K.setφ σ.length w1.heap.size) (σ ++ [AObj.loop .ready none b.fn ps as body E.N fr]).length q q' := VRs.mono ⟨l2, g2⟩ s2.ext hn2
    obtain ⟨e, w3, fr3, ⟨v, c, σ3, K3, rfl, ⟨st, pend, hst, hg3, hrun⟩, hv3, r3, s3⟩, hsteps, hfn, hleave⟩ := hA.2 (K.setφ σ.length w1.heap.size) w2 (p'.toArray ++ #[.func (.yield w1.heap.size) #[] #[]] ++ q'.toArray) r2 (by
      have := (hp.append (VRs.cons hVy .nil)).append hq
      simpa using this) (b.atR { a with defers := [mark w.heap.size] ++ a.defers } (.inRangeFunc w1.heap.size :: k) :: cs)
    obtain ⟨l, k1, k2, k3, k4, k5, k6, k7, k8, _, k10⟩ := r3.turnLoop hg3
    have hφ : K3.φ σ.length = w1.heap.size := by
      rw [s3.ext.φ σ.length (by simp)]; simp only [Kr.setφ, if_true]
    obtain ⟨r4, s4⟩ := k10 { l with state := .exhausted }
    rw [hφ] at k1 r4 s4
    have hend := run_endLoop (P := E.P) k1 (by rw [k2]; exact hst)
    have hend : (Instr.endLoop w1.heap.size).run E.P w3 = .ok pend { w3 with heap := w3.heap.setIfInBounds w1.heap.size (.loop { l with state := .exhausted }) } := by rw [hend, k3]
    have hK : Step K σ w1 K3 (hset σ3 σ.length .dead) { w3 with heap := w3.heap.setIfInBounds w1.heap.size (.loop { l with state := .exhausted }) } := (s2.trans s3).trans s4
    obtain ⟨K5, σ5, fr5, w5, a5, t5, j, ms, m1, m2, m3, m4, m5, m6, m7, m8⟩ := hrun K3 _ { a with defers := [mark w.heap.size] ++ a.defers } b cs hb r4 (hF.mono hK.ext hK.len)
    have hall := hK.trans m6
    have hback : Steps E.P (lone (b.atR a (.code (.rangeFunc f ps as body) :: k)) cs w) (lone (b.atR { a with defers := [mark w.heap.size] ++ a.defers } ((pend.map Item.code).toList ++ k)) cs { w3 with heap := w3.heap.setIfInBounds w1.heap.size (.loop { l with state := .exhausted }) }) := by
      refine .head hstep (hsteps.trans (.head ?_ (.one (stepR_endRangeFunc hend))))
      rw [← finish_atR_inRangeFunc w1.heap.size c]; exact step_leave_returned hleave
    have hkeep := hall.keep w.heap.size (by omega) hfree1
    refine ⟨K5, σ5, fr5, w5, a5, t5, j, ms ++ [w.heap.size], m1, hback.trans m2, m3, m4, m5, s1.trans hall, ?_, ?_⟩
    · rw [m7]; simp
    · have hw4 : w1.heap.size ≤ ({ w3 with heap := w3.heap.setIfInBounds w1.heap.size (.loop { l with state := .exhausted }) } : World).heap.size := hK.size
      refine ⟨?_, fun r hr => ?_, fun r hr => ?_, fun r hr => ?_⟩
      · rw [List.nodup_append]
        refine ⟨m8.nodup, by simp, fun x hx y hy => ?_⟩
        simp at hy; subst hy
        have := m8.lo x hx; omega
      · rcases List.mem_append.1 hr with hr | hr
        · have := m8.lo r hr; omega
        · simp at hr; omega
      · rcases List.mem_append.1 hr with hr | hr
        · exact m8.heap r hr
        · simp at hr; subst hr; rw [hkeep.1]; exact hh1
      · rcases List.mem_append.1 hr with hr | hr
        · exact m8.free r hr
        · simp at hr; subst hr; exact hkeep.2.1
end Go.Mu
set_option linter.unusedSimpArgs false
set_option linter.unusedVariables false
namespace Go.Mu
open Go

/-- Values that name no object. -/
def Plain (v : AV) : Prop := ∀ n, Lt n v
theorem Plain.int {k : IntKind} {i : Int} : Plain (.int k i) := fun _ => .int _ _
theorem Plain.bool {b : Bool} : Plain (.bool b) := fun _ => .bool _
theorem Plain.str {s : ByteArray} : Plain (.str s) := fun _ => .str _
theorem Plain.agg {cs : List AV} (h : ∀ c ∈ cs, Plain c) : Plain (.agg cs) := fun n => .agg _ fun i hi => h _ (List.getElem_mem hi) n
theorem Plain.tup {cs : List AV} (h : ∀ c ∈ cs, Plain c) : Plain (.tup cs) := fun n => .tup _ fun i hi => h _ (List.getElem_mem hi) n
theorem Plain.iface {t : TypeId} {v : AV} (h : Plain v) : Plain (.iface t v) := fun n => .iface _ _ (h n)
theorem Plain.list {sz : Nat} {xs : List AV} (h : ∀ x ∈ xs, Plain (.agg x.cells)) : Plain (.list .no sz xs) := fun n => .list _ _ _ (fun id e => by cases e) fun i j hi hj => by
  cases h _ (List.getElem_mem hi) n with
  | agg _ h => exact h j hj
theorem Plain.map {α : Type} {sz : Nat} {f : α → AV} {xs : List α} (h : ∀ x ∈ xs, Plain (.agg (f x).cells)) : Plain (.list .no sz (xs.map f)) := .list fun y hy => by
  obtain ⟨x, hx, rfl⟩ := List.mem_map.1 hy; exact h x hx
theorem Plain.cells_int {k : IntKind} {i : Int} : Plain (.agg (AV.int k i).cells) := .agg (by simp [AV.cells]; exact .int)
theorem Plain.cells_str {s : ByteArray} : Plain (.agg (AV.str s).cells) := .agg (by simp [AV.cells]; exact .str)
theorem Plain.cells_list {sz : Nat} {xs : List AV} (h : Plain (.list .no sz xs)) : Plain (.agg (AV.list .no sz xs).cells) := .agg (by simp [AV.cells]; exact h)
theorem Plain.ints {xs : List Int} : Plain (ints .no xs) := .map fun x _ => .cells_int

/-- Less is known of a value: leaf, aggregate, tuple. -/
def wk0 : AV → AV → Prop
  | .list t sz xs, .list t' sz' ys => xs = ys ∧ (sz = sz' ∨ ys = []) ∧ (t' = .no ∨ t = t')
  | v, w => v = w
def wkL (f : AV → AV → Prop) : List AV → List AV → Prop
  | [], [] => True
  | a :: as, b :: bs => f a b ∧ wkL f as bs
  | _, _ => False
def wk1 : AV → AV → Prop
  | .agg cs, .agg ds => wkL wk0 cs ds
  | v, w => wk0 v w
def wk : AV → AV → Prop
  | .tup cs, .tup ds => wkL wk1 cs ds
  | v, w => wk1 v w

theorem wk0_weak {v w : AV} (h : wk0 v w) : Weak v w := by
  unfold wk0 at h
  split at h
  · rename_i t sz xs t' sz' ys
    obtain ⟨rfl, h1, h2⟩ := h
    intro K n c hv
    cases hv with
    | list _ _ _ a cap f hl ht ha hs h1' h =>
      have ht' : TokR K n t' xs.length a cap := by
        rcases h2 with rfl | rfl
        · trivial
        · exact ht
      rcases h1 with rfl | rfl
      · exact .list t' sz xs a cap f hl ht' ha hs h1' h
      · exact .list t' sz' [] a cap f hl ht' (fun h => absurd rfl h) (fun i hi => by simp at hi) (fun i j hi => by simp at hi) (fun i j hi => by simp at hi)
  · subst h; exact Weak.refl _
theorem wkL_len {f : AV → AV → Prop} : ∀ {cs ds : List AV}, wkL f cs ds → cs.length = ds.length ∧ ∀ i (h : i < cs.length) (h' : i < ds.length), f cs[i] ds[i]
  | [], [], _ => ⟨rfl, fun i h => by simp at h⟩
  | a :: as, b :: bs, h => by
    obtain ⟨h1, h2⟩ := h
    obtain ⟨g1, g2⟩ := wkL_len h2
    refine ⟨by simp [g1], fun i a b => ?_⟩
    cases i with
    | zero => exact h1
    | succ i => exact g2 i (by simpa using a) (by simpa using b)
  | [], _ :: _, h => h.elim
  | _ :: _, [], h => h.elim
theorem wk1_weak {v w : AV} (h : wk1 v w) : Weak v w := by
  unfold wk1 at h
  split at h
  · obtain ⟨g1, g2⟩ := wkL_len h
    exact Weak.agg g1 fun i a b => wk0_weak (g2 i a b)
  · exact wk0_weak h
theorem wk_weak {v w : AV} (h : wk v w) : Weak v w := by
  unfold wk at h
  split at h
  · obtain ⟨g1, g2⟩ := wkL_len h
    exact Weak.tup g1 fun i a b => wk1_weak (g2 i a b)
  · exact wk1_weak h

/-- What a function that computes alone leaves. -/
def Gives (σ : List AObj) (v : AV) : AV → List AObj → Prop := fun v' σ' => (∃ junk, σ' = σ ++ junk) ∧ wk v' v
theorem post_app {σ l : List AObj} {v v' : AV} : Gives σ v v' (σ ++ l) = wk v' v := by
  unfold Gives; exact propext ⟨fun h => h.2, fun h => ⟨⟨_, rfl⟩, h⟩⟩
theorem post_nil {σ : List AObj} {v v' : AV} : Gives σ v v' σ = wk v' v := by
  unfold Gives; exact propext ⟨fun h => h.2, fun h => ⟨⟨[], by simp⟩, h⟩⟩
@[congr] theorem Gives_congr {σ : List AObj} {v a a' : AV} {s s' : List AObj} (h1 : a = a') (h2 : s = s') : Gives σ v a s = Gives σ v a' s' := by rw [h1, h2]
@[congr] theorem wk_congr {a a' b : AV} (h1 : a = a') : wk a b = wk a' b := by rw [h1]
theorem wk_tup {cs ds : List AV} : wk (.tup cs) (.tup ds) = wkL wk1 cs ds := rfl
theorem wk_agg {cs ds : List AV} : wk (.agg cs) (.agg ds) = wkL wk0 cs ds := rfl
theorem wk_int {k k' : IntKind} {i j : Int} : wk (.int k i) (.int k' j) = (AV.int k i = .int k' j) := rfl
theorem wk_bool {i j : Bool} : wk (.bool i) (.bool j) = (AV.bool i = .bool j) := rfl
theorem wk_str {i j : ByteArray} : wk (.str i) (.str j) = (AV.str i = .str j) := rfl
theorem wk_iface {t t' : TypeId} {i j : AV} : wk (.iface t i) (.iface t' j) = (AV.iface t i = .iface t' j) := rfl
theorem wk_list {t t' : Tok} {sz sz' : Nat} {xs ys : List AV} : wk (.list t sz xs) (.list t' sz' ys) = (xs = ys ∧ (sz = sz' ∨ ys = []) ∧ (t' = .no ∨ t = t')) := rfl
theorem wk1_agg {cs ds : List AV} : wk1 (.agg cs) (.agg ds) = wkL wk0 cs ds := rfl
theorem wk1_int {k k' : IntKind} {i j : Int} : wk1 (.int k i) (.int k' j) = (AV.int k i = .int k' j) := rfl
theorem wk1_bool {i j : Bool} : wk1 (.bool i) (.bool j) = (AV.bool i = .bool j) := rfl
theorem wk1_str {i j : ByteArray} : wk1 (.str i) (.str j) = (AV.str i = .str j) := rfl
theorem wk1_list {t t' : Tok} {sz sz' : Nat} {xs ys : List AV} : wk1 (.list t sz xs) (.list t' sz' ys) = (xs = ys ∧ (sz = sz' ∨ ys = []) ∧ (t' = .no ∨ t = t')) := rfl
theorem wk0_int {k k' : IntKind} {i j : Int} : wk0 (.int k i) (.int k' j) = (AV.int k i = .int k' j) := rfl
theorem wk0_bool {i j : Bool} : wk0 (.bool i) (.bool j) = (AV.bool i = .bool j) := rfl
theorem wk0_str {i j : ByteArray} : wk0 (.str i) (.str j) = (AV.str i = .str j) := rfl
theorem wk0_list {t t' : Tok} {sz sz' : Nat} {xs ys : List AV} : wk0 (.list t sz xs) (.list t' sz' ys) = (xs = ys ∧ (sz = sz' ∨ ys = []) ∧ (t' = .no ∨ t = t')) := rfl
theorem wkL_nil {f : AV → AV → Prop} : wkL f [] [] = True := rfl
theorem wkL_cons {f : AV → AV → Prop} {a b : AV} {as bs : List AV} : wkL f (a :: as) (b :: bs) = (f a b ∧ wkL f as bs) := rfl
theorem PureV.of_ev {E : Env} (hE : EnvOK E) {f : FuncId} {fn : Func} {c : Code} {args : List AV} {v : AV} (hp : Plain v) (kp : Nat → Bool) (hf : E.P.funcs[f]? = some fn) (hb : fn.body = some c) (hN : fn.ntmps = E.N) (hA : args.length ≤ E.N)
    (hC : Callable E.P f) (hO : todoOK E [.code c] = true)
    (h : ∀ σ, ev E none 100000 [.code c] ⟨kp, [], number 0 args⟩ σ (retPost E fn.results.toList (Gives σ v))) : PureV E.P f args v := by
  intro σ Q hq
  refine ACalls.clean ((ACalls.of_ev hE kp hf hb hN hA hC hO (h σ)).mono fun v' σ' ⟨⟨junk, h1⟩, h2⟩ => ⟨v, junk, h1, wk_weak h2, hp _, hq⟩)

/-- A call that returns a value of a kind, and leaves the objects as they were. -/
theorem ACalls.clean_ev {E : Env} (hE : EnvOK E) {f : FuncId} {fn : Func} {c : Code} {args : List AV} {σ : List AObj} {v : AV} (hp : Lt σ.length v) {Q : AV → List AObj → Prop} (hq : Q v σ) (kp : Nat → Bool) (hf : E.P.funcs[f]? = some fn) (hb : fn.body = some c) (hN : fn.ntmps = E.N) (hA : args.length ≤ E.N)
    (hC : Callable E.P f) (hO : todoOK E [.code c] = true)
    (h : ev E none 100000 [.code c] ⟨kp, [], number 0 args⟩ σ (retPost E fn.results.toList (Gives σ v))) : ACalls E.P f args σ Q :=
  ACalls.clean ((ACalls.of_ev hE kp hf hb hN hA hC hO h).mono fun v' σ' ⟨⟨junk, h1⟩, h2⟩ => ⟨v, junk, h1, wk_weak h2, hp, hq⟩)

section
variable {σ : List AObj} {X : AV → List AObj → Prop}
theorem callO_give {P : Program} {g : FuncId} {as : List AV} {v : AV} : callO P g as σ X (some v) = giveB X σ (some v) := by rw [giveB_eq]; rfl
theorem giveB_agg {cs : List AV} : giveB X σ (some (.agg cs)) = X (.agg cs) σ := rfl
theorem giveB_tup {cs : List AV} : giveB X σ (some (.tup cs)) = X (.tup cs) σ := rfl
theorem giveB_list {t : Tok} {sz : Nat} {cs : List AV} : giveB X σ (some (.list t sz cs)) = X (.list t sz cs) σ := rfl
theorem giveB_iface {t : TypeId} {v : AV} : giveB X σ (some (.iface t v)) = X (.iface t v) σ := rfl
theorem giveB_fn {f : Fn} {p q : List AV} : giveB X σ (some (.fn f p q)) = X (.fn f p q) σ := rfl
end

/-- Ways part. -/
def evIf (E : Env) (ro : Option Nat) (n : Nat) (k : List Item) (Q : Post) (fr : Fr) (σ : List AObj) (x y : Code) (c : Option AV) : Prop := match c with
  | some (.bool t) => (t = true → ev E ro n (.code x :: k) fr σ Q) ∧ (t = false → ev E ro n (.code y :: k) fr σ Q)
  | _ => False
section
variable {E : Env} {ro : Option Nat} {n : Nat} {k : List Item} {Q : Post} {fr : Fr} {σ : List AObj} {x y : Code}
theorem evIf_true : evIf E ro n k Q fr σ x y (some (.bool true)) = ev E ro n (.code x :: k) fr σ Q := by simp [evIf]
theorem evIf_false : evIf E ro n k Q fr σ x y (some (.bool false)) = ev E ro n (.code y :: k) fr σ Q := by simp [evIf]
theorem evIf_decide {p : Prop} [Decidable p] : evIf E ro n k Q fr σ x y (some (.bool (decide p))) = ((p → ev E ro n (.code x :: k) fr σ Q) ∧ (¬ p → ev E ro n (.code y :: k) fr σ Q)) := by simp [evIf]
theorem evIf_not {b : Bool} : evIf E ro n k Q fr σ x y (some (.bool (!b))) = evIf E ro n k Q fr σ y x (some (.bool b)) := by cases b <;> simp [evIf]
theorem evIf_var {b : Bool} : evIf E ro n k Q fr σ x y (some (.bool b)) = ((b = true → ev E ro n (.code x :: k) fr σ Q) ∧ (b = false → ev E ro n (.code y :: k) fr σ Q)) := rfl
theorem ev_condI {c : Operand} : ev E ro (n + 1) (.code (.cond c x y) :: k) fr σ Q = evIf E ro n k Q fr σ x y (aeval fr c) := by
  rw [ev_cond]; unfold evIf; rfl
end
section
variable {E : Env} {ro : Option Nat} {σ : List AObj} {X : AV → List AObj → Prop}
def exO (A : Prop) (f : List Item → Prop) : Option (List Item) → Prop
  | some k => f k
  | none => A
@[congr] theorem exO_congr {A : Prop} {f : List Item → Prop} {v v' : Option (List Item)} (h : v = v') : exO A f v = exO A f v' := by rw [h]
theorem exO_some {A : Prop} {f : List Item → Prop} {k : List Item} : exO A f (some k) = f k := rfl
theorem exO_none {A : Prop} {f : List Item → Prop} : exO A f none = A := rfl
theorem ev_exitI {n : Nat} {k : List Item} {fr : Fr} {Q : Post} {id : Nat} : ev E ro (n + 1) (.code (.exit id) :: k) fr σ Q = exO (Q (some (.exit id)) fr σ) (fun k' => ev E ro n k' fr σ Q) (exitTo id k) := by
  rw [ev_exit]; cases exitTo id k <;> rfl
theorem ev_rangeI {n : Nat} {k : List Item} {fr : Fr} {Q : Post} {f : Operand} {p : Array Tmp} {x y : Code} : ev E ro (n + 1) (.code (.rangeFunc f p x y) :: k) fr σ Q = ARun E ro (.code (.rangeFunc f p x y) :: k) fr.anew σ Q := rfl
theorem ev_beginI {n : Nat} {k : List Item} {fr : Fr} {Q : Post} : ev E ro (n + 1) (.beginRound :: k) fr σ Q = ARun E ro (.beginRound :: k) fr.anew σ Q := rfl
def giveC (X : AV → List AObj → Prop) (σ : List AObj) (b : Bool) : Prop := (b = true → X (.bool true) σ) ∧ (b = false → X (.bool false) σ)
@[congr] theorem giveC_congr {b b' : Bool} (h : b = b') : giveC X σ b = giveC X σ b' := by rw [h]
theorem giveB_giveC {b : Bool} : giveB X σ (some (.bool b)) = giveC X σ b := rfl
theorem giveC_true : giveC X σ true = X (.bool true) σ := by simp [giveC]
theorem giveC_false : giveC X σ false = X (.bool false) σ := by simp [giveC]
theorem giveC_decide {p : Prop} [Decidable p] : giveC X σ (decide p) = ((p → X (.bool true) σ) ∧ (¬ p → X (.bool false) σ)) := by simp [giveC]
theorem giveC_beq {a b : Int} : giveC X σ (a == b) = giveC X σ (decide (a = b)) := by
  have : (a == b) = decide (a = b) := by rw [Bool.eq_iff_iff]; simp
  rw [this]
theorem giveC_bne {a b : Int} : giveC X σ (a != b) = giveC X σ (!decide (a = b)) := by
  have : (a != b) = !decide (a = b) := by rw [Bool.eq_iff_iff]; simp
  rw [this]
theorem giveC_ndecide {p : Prop} [Decidable p] : giveC X σ (!decide p) = ((¬ p → X (.bool true) σ) ∧ (p → X (.bool false) σ)) := by simp [giveC]
theorem giveC_list {α : Type} [BEq α] [LawfulBEq α] {a b : List α} : giveC X σ (a == b) = ((a = b → X (.bool true) σ) ∧ (¬ a = b → X (.bool false) σ)) := by
  unfold giveC
  have h2 : ((a == b) = false) = ¬ a = b := by rw [← Bool.not_eq_true, beq_iff_eq]
  rw [h2]; simp
theorem giveC_listn {α : Type} [BEq α] [LawfulBEq α] {a b : List α} : giveC X σ (a != b) = ((¬ a = b → X (.bool true) σ) ∧ (a = b → X (.bool false) σ)) := by
  unfold giveC; simp
theorem giveC_and {b c : Bool} : giveC X σ (b && c) = ((b = true → giveC X σ c) ∧ (b = false → X (.bool false) σ)) := by cases b <;> cases c <;> simp [giveC]
def guardA (E : Env) (all os : List Oper) (dst : Option Tmp) (fr : Fr) (Q : Fr → List AObj → Prop) (σ : List AObj) (type : TypeId) (op : Op) (want : Bool) (v : Option AV) : Prop := match v with
  | some (.bool b) => (b = want → evOp E fr σ type op (evNext E all os dst fr Q)) ∧ (b = !want → evNext E all os dst fr Q (.tup []) σ)
  | some (.tup []) => evNext E all os dst fr Q (.tup []) σ
  | _ => False
def guardB (E : Env) (all : List Oper) (rs : List Nat) (L : List (Nat × List Nat)) (dst : Option Tmp) (fr : Fr) (Q : Fr → List AObj → Prop) (σ : List AObj) (type : TypeId) (op : Op) (want : Bool) (v : Option AV) : Prop := match v with
  | some (.bool b) => (b = want → evOp E fr σ type op (evNextD E all rs L dst fr Q)) ∧ (b = !want → evNextD E all rs L dst fr Q (.tup []) σ)
  | some (.tup []) => evNextD E all rs L dst fr Q (.tup []) σ
  | _ => False
def getO (fr : Fr) : Option Tmp → Option AV
  | some d => fr.get d
  | none => none
theorem getO_some {fr : Fr} {d : Tmp} : getO fr (some d) = fr.get d := rfl
section
variable {all os : List Oper} {dst : Option Tmp} {fr : Fr} {Q : Fr → List AObj → Prop} {type : TypeId} {op : Op} {rs : List Nat} {L : List (Nat × List Nat)} {want : Bool}
theorem guardA_tt : guardA E all os dst fr Q σ type op true (some (.bool true)) = evOp E fr σ type op (evNext E all os dst fr Q) := by simp [guardA]
theorem guardA_ff : guardA E all os dst fr Q σ type op false (some (.bool false)) = evOp E fr σ type op (evNext E all os dst fr Q) := by simp [guardA]
theorem guardA_tf : guardA E all os dst fr Q σ type op false (some (.bool true)) = evNext E all os dst fr Q (.tup []) σ := by simp [guardA]
theorem guardA_ft : guardA E all os dst fr Q σ type op true (some (.bool false)) = evNext E all os dst fr Q (.tup []) σ := by simp [guardA]
theorem guardA_tup : guardA E all os dst fr Q σ type op want (some (.tup [])) = evNext E all os dst fr Q (.tup []) σ := by simp [guardA]
theorem guardB_tt : guardB E all rs L dst fr Q σ type op true (some (.bool true)) = evOp E fr σ type op (evNextD E all rs L dst fr Q) := by simp [guardB]
theorem guardB_ff : guardB E all rs L dst fr Q σ type op false (some (.bool false)) = evOp E fr σ type op (evNextD E all rs L dst fr Q) := by simp [guardB]
theorem guardB_tf : guardB E all rs L dst fr Q σ type op false (some (.bool true)) = evNextD E all rs L dst fr Q (.tup []) σ := by simp [guardB]
theorem guardB_ft : guardB E all rs L dst fr Q σ type op true (some (.bool false)) = evNextD E all rs L dst fr Q (.tup []) σ := by simp [guardB]
theorem guardB_tup : guardB E all rs L dst fr Q σ type op want (some (.tup [])) = evNextD E all rs L dst fr Q (.tup []) σ := by simp [guardB]
theorem evOps_guardA {pos : String} {after : Array Edge} {j : Nat} : evOps E all (⟨dst, op, type, pos, after, some (j, want)⟩ :: os) fr σ Q = guardA E all os dst fr Q σ type op want (getO fr (dstOf all j)) := by
  rw [evOps_guard]
  cases dstOf all j with
  | none => rfl
  | some d => rfl
theorem evDo_guardA {pos : String} {after : Array Edge} {j : Nat} : evDo E all rs L fr σ Q (some ⟨dst, op, type, pos, after, some (j, want)⟩) = guardB E all rs L dst fr Q σ type op want (getO fr (dstOf all j)) := by
  rw [evDo_guard]
  cases dstOf all j with
  | none => rfl
  | some d => rfl
/-- A call, told by what is called. -/
def callF (E : Env) (σ : List AObj) (X : AV → List AObj → Prop) (f : Option AV) (as : Option (List AV)) : Prop := match f, as with
  | some (.fn (.func g) p q), some as => callA E g (p ++ as ++ q) σ X
  | some (.yield r), some as => AYield E.P r as σ X
  | _, _ => False
theorem evOp_callF {f : Operand} {args : Array Operand} {ats : Array TypeId} : evOp E fr σ type (.call ⟨.value f, args, ats⟩) X = callF E σ X (aeval fr f) (aevals fr args.toList) := rfl
theorem callF_fn {g : FuncId} {p q as : List AV} : callF E σ X (some (.fn (.func g) p q)) (some as) = callA E g (p ++ as ++ q) σ X := rfl
theorem callF_yield {r : Nat} {as : List AV} : callF E σ X (some (.yield r)) (some as) = AYield E.P r as σ X := rfl
def callM (E : Env) (σ : List AObj) (X : AV → List AObj → Prop) (v : AV) (as : List AV) : Option FuncId → Prop
  | some g => callA E g (v :: as) σ X
  | none => False
theorem callM_some {v : AV} {as : List AV} {g : FuncId} : callM E σ X v as (some g) = callA E g (v :: as) σ X := rfl
def callI (E : Env) (σ : List AObj) (X : AV → List AObj → Prop) (m : String) (f : Option AV) (as : Option (List AV)) : Prop := match f, as with
  | some (.iface t v), some as => callM E σ X v as (E.mt t m)
  | _, _ => False
theorem evOp_invokeI {r : Operand} {m : String} {args : Array Operand} {ats : Array TypeId} : evOp E fr σ type (.call ⟨.invoke r m, args, ats⟩) X = callI E σ X m (aeval fr r) (aevals fr args.toList) := by
  rw [evOp_invoke]
  cases aeval fr r with
  | none => rfl
  | some v =>
    cases aevals fr args.toList with
    | none => cases v <;> rfl
    | some l =>
      cases v with
      | iface t u => simp only [callI]; cases E.mt t m <;> rfl
      | _ => rfl
theorem callI_some {m : String} {t : TypeId} {v : AV} {as : List AV} : callI E σ X m (some (.iface t v)) (some as) = callM E σ X v as (E.mt t m) := rfl
end
end

/-- Slots anew. -/
def upd (sl : List (Nat × AV)) : List (Nat × AV) → List (Nat × AV)
  | [] => sl
  | p :: l => upd (ins sl p.1 p.2) l

/-- A loop that counts: lv is what the slots are at the head of round i, S what the objects are, P what is known. -/
theorem ARun.forS {E : Env} (hE : EnvOK E) {ro : Option Nat} {c : Code} {k : List Item} {kp : Nat → Bool} {tm sl : List (Nat × AV)} {σ : List AObj} {Q : Post} (n : Nat) (P : Nat → Prop) (lv : Nat → List (Nat × AV)) (S : Nat → List AObj → List AObj) (j0 : List AObj)
    (hO : todoOK E (.code c :: .inLoop c :: k) = true) (hσ : S 0 j0 = σ) (h0 : subF (upd sl (lv 0)) sl) (hP : P 0)
    (hs : ∀ i j, i < n → P i → (P (i + 1) → ∀ j', ARun E ro (.inLoop c :: k) ⟨kp, [], upd sl (lv (i + 1))⟩ (S (i + 1) j') Q) → ev E ro 100000 (.code c :: .inLoop c :: k) ⟨kp, [], upd sl (lv i)⟩ (S i j) Q)
    (he : ∀ j, P n → ev E ro 100000 (.code c :: .inLoop c :: k) ⟨kp, [], upd sl (lv n)⟩ (S n j) Q) : ARun E ro (.code (.loop c) :: k) ⟨kp, tm, sl⟩ σ Q := by
  have key : ∀ d i j, i + d = n → P i → ARun E ro (.code c :: .inLoop c :: k) ⟨kp, [], upd sl (lv i)⟩ (S i j) Q := by
    intro d
    induction d with
    | zero => intro i j hi hp; have : i = n := by omega
              subst this; exact ev_sound hE hO (he j hp)
    | succ d ih => intro i j hi hp; exact ev_sound hE hO (hs i j (by omega) hp fun hp' j' => .inLoop (ih (i + 1) j' (by omega) hp'))
  subst hσ
  exact .loop (ARun.sub (key n 0 j0 (by omega) hP) h0)

/-- A loop that counts, whose objects are told by a law. -/
theorem ARun.forJ {E : Env} (hE : EnvOK E) {ro : Option Nat} {c : Code} {k : List Item} {kp : Nat → Bool} {tm sl : List (Nat × AV)} {σ : List AObj} {Q : Post} (n : Nat) (J : Nat → List AObj → Prop) (lv : Nat → List (Nat × AV))
    (hO : todoOK E (.code c :: .inLoop c :: k) = true) (h0 : subF (upd sl (lv 0)) sl) (hJ : J 0 σ)
    (hs : ∀ i τ, i < n → J i τ → (∀ τ', J (i + 1) τ' → ARun E ro (.inLoop c :: k) ⟨kp, [], upd sl (lv (i + 1))⟩ τ' Q) → ev E ro 100000 (.code c :: .inLoop c :: k) ⟨kp, [], upd sl (lv i)⟩ τ Q)
    (he : ∀ τ, J n τ → ev E ro 100000 (.code c :: .inLoop c :: k) ⟨kp, [], upd sl (lv n)⟩ τ Q) : ARun E ro (.code (.loop c) :: k) ⟨kp, tm, sl⟩ σ Q := by
  have key : ∀ d i τ, i + d = n → J i τ → ARun E ro (.code c :: .inLoop c :: k) ⟨kp, [], upd sl (lv i)⟩ τ Q := by
    intro d
    induction d with
    | zero => intro i τ hi hp; have : i = n := by omega
              subst this; exact ev_sound hE hO (he τ hp)
    | succ d ih => intro i τ hi hp; exact ev_sound hE hO (hs i τ (by omega) hp fun τ' hp' => .inLoop (ih (i + 1) τ' (by omega) hp'))
  exact .loop (ARun.sub (key n 0 σ (by omega) hJ) h0)

theorem ARun.castS {E : Env} {ro : Option Nat} {todo : List Item} {kp : Nat → Bool} {tm sl sl' : List (Nat × AV)} {σ σ' : List AObj} {Q : Post} (h : ARun E ro todo ⟨kp, [], sl'⟩ σ' Q) (hσ : σ' = σ) (hs : subF sl' sl) : ARun E ro todo ⟨kp, tm, sl⟩ σ Q := by
  subst hσ; exact h.sub hs

theorem getElem?_at {α : Type} {l m : List α} : (l ++ m)[l.length]? = m[0]? := by rw [List.getElem?_append_right (by omega)]; simp
theorem getElem?_at' {α : Type} {l m : List α} {k : Nat} : (l ++ m)[l.length + k]? = m[k]? := by rw [List.getElem?_append_right (by omega)]; simp
theorem set_at {α : Type} {l m : List α} {x : α} : (l ++ m).set l.length x = l ++ m.set 0 x := by rw [List.set_append_right _ _ (by omega)]; simp
theorem set_at' {α : Type} {l m : List α} {k : Nat} {x : α} : (l ++ m).set (l.length + k) x = l ++ m.set k x := by rw [List.set_append_right _ _ (by omega)]; simp
theorem foldl_take {α β : Type} (f : β → α → β) (b : β) (l : List α) (i : Nat) (h : i < l.length) : (l.take (i + 1)).foldl f b = f ((l.take i).foldl f b) l[i] := by
  rw [List.take_succ_eq_append_getElem h, List.foldl_append]; rfl
theorem foldl_all {α β : Type} (f : β → α → β) (b : β) (l : List α) : (l.take l.length).foldl f b = l.foldl f b := by rw [List.take_length]
theorem wrap64 {n : Int} (h1 : -9223372036854775808 ≤ n) (h2 : n < 9223372036854775808) : IntKind.i64.wrap n = n := by
  rw [IntKind.wrap_i64]; omega
theorem wrapS {i : Nat} (h : i < 9223372036854775807) : IntKind.i64.wrap ((i : Int) + 1) = ((i + 1 : Nat) : Int) := by rw [wrap64 (by omega) (by omega)]; rfl
end Go.Mu
set_option linter.unusedSimpArgs false
set_option linter.unusedVariables false
namespace Go.Mu
open Go

theorem VRs.weaken {K : Kr} {n : Nat} : ∀ {l l' : List AV} {cs : List Value}, wkL wk l l' → VRs K n l cs → VRs K n l' cs
  | l, l', cs, h, hv => by
    obtain ⟨h1, h2⟩ := wkL_len h
    refine ⟨by rw [← h1]; exact hv.1, fun i a b => ?_⟩
    have hi : i < l.length := by omega
    exact wk_weak (h2 i hi a) K n _ (hv.2 i hi b)
theorem PureV.weaken {P : Program} {f : FuncId} {l l' : List AV} {v : AV} (h : wkL wk l l') (hp : PureV P f l' v) : PureV P f l v := fun σ Q hq => by
  have h0 := hp σ Q hq
  exact ⟨h0.1, fun K w cargs hR hV => h0.2 K w cargs hR (hV.weaken h)⟩
theorem ACalls.weaken {P : Program} {f : FuncId} {l l' : List AV} {σ : List AObj} {Q : AV → List AObj → Prop} (h : wkL wk l l') (h0 : ACalls P f l' σ Q) : ACalls P f l σ Q :=
  ⟨h0.1, fun K w cargs hR hV => h0.2 K w cargs hR (hV.weaken h)⟩

theorem cells_bool (b : Bool) : (AV.bool b).cells = [AV.bool b] := rfl
theorem flat_bool (b : Bool) : (AV.bool b).flat = true := rfl
theorem cells_int (k : IntKind) (n : Int) : (AV.int k n).cells = [AV.int k n] := rfl
theorem flat_int (k : IntKind) (n : Int) : (AV.int k n).flat = true := rfl
theorem cells_str (s : ByteArray) : (AV.str s).cells = [AV.str s] := rfl
theorem flat_str (s : ByteArray) : (AV.str s).flat = true := rfl
theorem cells_ptr (r o : Nat) : (AV.ptr r o).cells = [AV.ptr r o] := rfl
theorem flat_ptr (r o : Nat) : (AV.ptr r o).flat = true := rfl
theorem cells_nilptr  : (AV.nilptr).cells = [AV.nilptr] := rfl
theorem flat_nilptr  : (AV.nilptr).flat = true := rfl
theorem cells_eptr (cs : List AV) (o : Nat) : (AV.eptr cs o).cells = [AV.eptr cs o] := rfl
theorem flat_eptr (cs : List AV) (o : Nat) : (AV.eptr cs o).flat = true := rfl
theorem cells_list (t : Tok) (z : Nat) (xs : List AV) : (AV.list t z xs).cells = [AV.list t z xs] := rfl
theorem flat_list (t : Tok) (z : Nat) (xs : List AV) : (AV.list t z xs).flat = true := rfl
theorem cells_arr (r o l : Nat) : (AV.arr r o l).cells = [AV.arr r o l] := rfl
theorem flat_arr (r o l : Nat) : (AV.arr r o l).flat = true := rfl
theorem cells_vec (r l : Nat) : (AV.vec r l).cells = [AV.vec r l] := rfl
theorem flat_vec (r l : Nat) : (AV.vec r l).flat = true := rfl
theorem cells_vptr (r m s i o : Nat) : (AV.vptr r m s i o).cells = [AV.vptr r m s i o] := rfl
theorem flat_vptr (r m s i o : Nat) : (AV.vptr r m s i o).flat = true := rfl
theorem cells_map (r : Nat) : (AV.map r).cells = [AV.map r] := rfl
theorem flat_map (r : Nat) : (AV.map r).flat = true := rfl
theorem cells_nilmap  : (AV.nilmap).cells = [AV.nilmap] := rfl
theorem flat_nilmap  : (AV.nilmap).flat = true := rfl
theorem cells_fn (f : Fn) (p q : List AV) : (AV.fn f p q).cells = [AV.fn f p q] := rfl
theorem flat_fn (f : Fn) (p q : List AV) : (AV.fn f p q).flat = true := rfl
theorem cells_yield (r : Nat) : (AV.yield r).cells = [AV.yield r] := rfl
theorem flat_yield (r : Nat) : (AV.yield r).flat = true := rfl
theorem cells_nilfn  : (AV.nilfn).cells = [AV.nilfn] := rfl
theorem flat_nilfn  : (AV.nilfn).flat = true := rfl
theorem cells_iface (t : TypeId) (v : AV) : (AV.iface t v).cells = [AV.iface t v] := rfl
theorem flat_iface (t : TypeId) (v : AV) : (AV.iface t v).flat = true := rfl
theorem cells_niliface  : (AV.niliface).cells = [AV.niliface] := rfl
theorem flat_niliface  : (AV.niliface).flat = true := rfl
theorem cells_agg (cs : List AV) : (AV.agg cs).cells = cs := rfl
theorem flat_agg (cs : List AV) : (AV.agg cs).flat = true := rfl
theorem appB_ff {e : TI} {σ : List AObj} {t : Tok} {sz : Nat} {xs : List AV} {sz' : Nat} {ys : List AV} : appB false e σ t sz xs sz' ys = appA e σ t sz xs sz' ys := rfl
theorem appB_nil {e : TI} {σ : List AObj} {sz : Nat} {sz' : Nat} {ys : List AV} : appB true e σ .full sz [] sz' ys = appF e σ sz' ys := rfl
theorem appB_cons {e : TI} {σ : List AObj} {sz : Nat} {x : AV} {xs : List AV} {sz' : Nat} {ys : List AV} : appB true e σ .full sz (x :: xs) sz' ys = appA e σ .full sz (x :: xs) sz' ys := rfl
theorem appB_own {e : TI} {σ : List AObj} {id : Nat} {sz : Nat} {xs : List AV} {sz' : Nat} {ys : List AV} : appB true e σ (.own id) sz xs sz' ys = appA e σ (.own id) sz xs sz' ys := rfl
/-- How data read. -/
structure Ty (α : Type) where
  dec : AV → Option α
  av : α → AV
  inv : ∀ {a x}, dec a = some x → wk a (av x)

def decs {α : Type} (d : AV → Option α) : List AV → Option (List α)
  | [] => some []
  | x :: xs => match d x, decs d xs with
    | some a, some l => some (a :: l)
    | _, _ => none
theorem decs_map {α : Type} {d : AV → Option α} {f : α → AV} (h : ∀ x, d (f x) = some x) : ∀ l : List α, decs d (l.map f) = some l
  | [] => rfl
  | x :: l => by simp only [List.map_cons, decs, h, decs_map h l]
theorem decs_inv {α : Type} {d : AV → Option α} {f : α → AV} (h : ∀ a x, d a = some x → a = f x) : ∀ {xs : List AV} {l : List α}, decs d xs = some l → xs = l.map f
  | [], l, e => by simp [decs] at e; subst e; rfl
  | x :: xs, l, e => by
    simp only [decs] at e
    split at e
    · rename_i a l' h1 h2
      simp at e; subst e
      rw [List.map_cons, ← h _ _ h1, ← decs_inv h h2]
    · cases e
/-- A list of n cells each. -/
def decL {α : Type} (n : Nat) (d : AV → Option α) : AV → Option (List α)
  | .list _ sz xs => if sz = n ∨ xs = [] then decs d xs else none
  | _ => none
theorem decL_inv {α : Type} {n : Nat} {d : AV → Option α} {f : α → AV} (h : ∀ a x, d a = some x → a = f x) {a : AV} {l : List α} (e : decL n d a = some l) : wk0 a (.list .no n (l.map f)) := by
  unfold decL at e
  split at e
  · split at e
    · rename_i t sz xs hs
      have := decs_inv h e
      subst this
      refine ⟨rfl, ?_, .inl rfl⟩
      rcases hs with h | h
      · exact .inl h
      · exact .inr h
    · cases e
  · cases e
theorem decL_inv' {α : Type} {n : Nat} {d : AV → Option α} {f : α → AV} (h : ∀ a x, d a = some x → a = f x) {a : AV} {l : List α} (e : decL n d a = some l) : wk a (.list .no n (l.map f)) := by
  have := decL_inv h e
  unfold decL at e
  split at e
  · exact this
  · cases e
theorem decL_self {α : Type} {n : Nat} {d : AV → Option α} {f : α → AV} (h : ∀ x, d (f x) = some x) {t : Tok} {l : List α} : decL n d (.list t n (l.map f)) = some l := by
  simp [decL, decs_map h]
theorem decL_nil {α : Type} {n sz : Nat} {d : AV → Option α} {t : Tok} : decL n d (.list t sz []) = some [] := by simp [decL, decs]
theorem decL_cons {α : Type} {n : Nat} {d : AV → Option α} {t : Tok} {x : AV} {xs : List AV} : decL n d (.list t n (x :: xs)) = decs d (x :: xs) := by simp [decL]
theorem decs_cons {α : Type} {d : AV → Option α} {x : AV} {xs : List AV} : decs d (x :: xs) = (d x).bind fun a => (decs d xs).bind fun l => some (a :: l) := by
  simp only [decs]; cases d x <;> cases decs d xs <;> rfl
theorem decs_nil {α : Type} {d : AV → Option α} : decs d [] = some [] := rfl

def decI : AV → Option Int
  | .int .i64 n => some n
  | _ => none
theorem decI_inv (a : AV) (x : Int) (h : decI a = some x) : a = .int .i64 x := by
  unfold decI at h; split at h
  · simp at h; subst h; rfl
  · cases h
theorem decI_int {n : Int} : decI (.int .i64 n) = some n := rfl
def decB : AV → Option Bool
  | .bool n => some n
  | _ => none
theorem decB_inv (a : AV) (x : Bool) (h : decB a = some x) : a = .bool x := by
  unfold decB at h; split at h
  · simp at h; subst h; rfl
  · cases h
theorem decB_bool {n : Bool} : decB (.bool n) = some n := rfl

def tI : Ty Int := ⟨decI, .int .i64, fun {a x} h => by rw [decI_inv a x h]; rfl⟩
def tB : Ty Bool := ⟨decB, .bool, fun {a x} h => by rw [decB_inv a x h]; rfl⟩
def tIs : Ty (List Int) := ⟨decL 1 decI, fun l => .list .no 1 (l.map (.int .i64)), decL_inv' decI_inv⟩
theorem tI_dec {a : AV} : tI.dec a = decI a := rfl
theorem tB_dec {a : AV} : tB.dec a = decB a := rfl
theorem tIs_dec {a : AV} : tIs.dec a = decL 1 decI a := rfl
theorem decL_ints {t : Tok} {l : List Int} : decL 1 decI (.list t 1 (l.map (.int .i64))) = some l := decL_self (f := AV.int .i64) fun _ => rfl

variable {α β γ δ ε : Type} {P : Program} {n : FuncId}
def spec1 (A : Ty α) (f : α → Option AV) : List AV → Option AV
  | [a] => (A.dec a).bind f
  | _ => none
def spec2 (A : Ty α) (B : Ty β) (f : α → β → Option AV) : List AV → Option AV
  | [a, b] => (A.dec a).bind fun x => (B.dec b).bind fun y => f x y
  | _ => none
def spec3 (A : Ty α) (B : Ty β) (C : Ty γ) (f : α → β → γ → Option AV) : List AV → Option AV
  | [a, b, c] => (A.dec a).bind fun x => (B.dec b).bind fun y => (C.dec c).bind fun z => f x y z
  | _ => none
def spec4 (A : Ty α) (B : Ty β) (C : Ty γ) (D : Ty δ) (f : α → β → γ → δ → Option AV) : List AV → Option AV
  | [a, b, c, d] => (A.dec a).bind fun x => (B.dec b).bind fun y => (C.dec c).bind fun z => (D.dec d).bind fun u => f x y z u
  | _ => none
theorem spec1_ok {A : Ty α} {f : α → Option AV} (h : ∀ x v, f x = some v → PureV P n [A.av x] v) : ∀ xs v, spec1 A f xs = some v → PureV P n xs v := by
  intro xs v e
  unfold spec1 at e
  split at e
  · rename_i a
    obtain ⟨x, h1, h2⟩ := Option.bind_eq_some_iff.1 e
    exact PureV.weaken (l' := [A.av x]) ⟨A.inv h1, trivial⟩ (h x v h2)
  · cases e
theorem spec2_ok {A : Ty α} {B : Ty β} {f : α → β → Option AV} (h : ∀ x y v, f x y = some v → PureV P n [A.av x, B.av y] v) : ∀ xs v, spec2 A B f xs = some v → PureV P n xs v := by
  intro xs v e
  unfold spec2 at e
  split at e
  · obtain ⟨x, h1, e⟩ := Option.bind_eq_some_iff.1 e
    obtain ⟨y, h2, e⟩ := Option.bind_eq_some_iff.1 e
    exact PureV.weaken (l' := [A.av x, B.av y]) ⟨A.inv h1, B.inv h2, trivial⟩ (h x y v e)
  · cases e
theorem spec3_ok {A : Ty α} {B : Ty β} {C : Ty γ} {f : α → β → γ → Option AV} (h : ∀ x y z v, f x y z = some v → PureV P n [A.av x, B.av y, C.av z] v) : ∀ xs v, spec3 A B C f xs = some v → PureV P n xs v := by
  intro xs v e
  unfold spec3 at e
  split at e
  · obtain ⟨x, h1, e⟩ := Option.bind_eq_some_iff.1 e
    obtain ⟨y, h2, e⟩ := Option.bind_eq_some_iff.1 e
    obtain ⟨z, h3, e⟩ := Option.bind_eq_some_iff.1 e
    exact PureV.weaken (l' := [A.av x, B.av y, C.av z]) ⟨A.inv h1, B.inv h2, C.inv h3, trivial⟩ (h x y z v e)
  · cases e
theorem spec4_ok {A : Ty α} {B : Ty β} {C : Ty γ} {D : Ty δ} {f : α → β → γ → δ → Option AV} (h : ∀ x y z u v, f x y z u = some v → PureV P n [A.av x, B.av y, C.av z, D.av u] v) : ∀ xs v, spec4 A B C D f xs = some v → PureV P n xs v := by
  intro xs v e
  unfold spec4 at e
  split at e
  · obtain ⟨x, h1, e⟩ := Option.bind_eq_some_iff.1 e
    obtain ⟨y, h2, e⟩ := Option.bind_eq_some_iff.1 e
    obtain ⟨z, h3, e⟩ := Option.bind_eq_some_iff.1 e
    obtain ⟨u, h4, e⟩ := Option.bind_eq_some_iff.1 e
    exact PureV.weaken (l' := [A.av x, B.av y, C.av z, D.av u]) ⟨A.inv h1, B.inv h2, C.inv h3, D.inv h4, trivial⟩ (h x y z u v e)
  · cases e
theorem leT {a b : Int} (h : a ≤ b) : (a ≤ b) = True := eq_true h
theorem leF {a b : Int} (h : ¬ a ≤ b) : (a ≤ b) = False := eq_false h
theorem ltT {a b : Int} (h : a < b) : (a < b) = True := eq_true h
theorem ltF {a b : Int} (h : ¬ a < b) : (a < b) = False := eq_false h
theorem eqT {a b : Int} (h : a = b) : (a = b) = True := eq_true h
theorem eqF {a b : Int} (h : ¬ a = b) : (a = b) = False := eq_false h
theorem nleT {a b : Nat} (h : a ≤ b) : (a ≤ b) = True := eq_true h
theorem nltT {a b : Nat} (h : a < b) : (a < b) = True := eq_true h
theorem wrapI {n : Int} (h1 : -9223372036854775808 ≤ n) (h2 : n < 9223372036854775808) : IntKind.i64.wrap n = n := wrap64 h1 h2
/-- An element by a number of Go's. -/
def tg (t : List Int) (i : Int) : Int := t.getD i.toNat 0
theorem tget {t : List Int} {x : Int} (h0 : 0 ≤ x) (h1 : x < t.length) : (t.map (AV.int .i64))[x.toNat]? = some (.int .i64 (tg t x)) := by
  have : x.toNat < t.length := by omega
  simp [tg, List.getElem?_eq_getElem this, List.getD]
theorem idx_tg {t : List Int} {x : Int} (h0 : 0 ≤ x) (h1 : x < t.length) : idx (t.map (AV.int .i64)) x = some (.int .i64 (tg t x)) := by
  unfold idx; rw [if_pos h0]; exact tget h0 h1
theorem idx_nat {α : Type} {f : α → AV} {l : List α} {i : Nat} (h : i < l.length) : idx (l.map f) (i : Int) = some (f l[i]) := idx_map h
theorem idx_get {α : Type} [Inhabited α] {f : α → AV} {l : List α} {x : Int} (h0 : 0 ≤ x) (h1 : x < l.length) : idx (l.map f) x = some (f (l.getD x.toNat default)) := by
  have h : x.toNat < l.length := by omega
  unfold idx; rw [if_pos h0]
  simp [List.getElem?_eq_getElem h, List.getD]
theorem neqF {a b : Nat} (h : ¬ a = b) : (a = b) = False := eq_false h
theorem nltF {a b : Nat} (h : ¬ a < b) : (a < b) = False := eq_false h
theorem neqT {a b : Nat} (h : a = b) : (a = b) = True := eq_true h
theorem take_map {α : Type} {f : α → AV} {t : List α} {n : Nat} (h : t.length ≤ n) : (t.map f).take n = t.map f := List.take_of_length_le (by simpa using h)
/-- An element is turned. -/
def setI (t : List Int) (i x : Int) : List Int := t.set i.toNat x
theorem putAt_cons {off : Nat} {n : AV} {new : List AV} {c : AV} {cs : List AV} : putAt off (n :: new) (c :: cs) = (c :: cs).take off ++ (n :: new) ++ (c :: cs).drop (off + (n :: new).length) := rfl
theorem putAt_map3 {t : List Int} {a b c : AV} (h : t.length = 3) : putAt 0 (t.map (AV.int .i64)) [a, b, c] = t.map (AV.int .i64) := by
  simp [putAt, h]
theorem putAt_set {t : List Int} {i x : Int} (h0 : 0 ≤ i) (h : i < t.length) : putAt i.toNat [AV.int .i64 x] (t.map (AV.int .i64)) = (setI t i x).map (AV.int .i64) := by
  have hi : i.toNat < t.length := by omega
  have hi' : i.toNat < (t.map (AV.int .i64)).length := by simpa using hi
  have e : ∀ (l : List AV) (v : AV), i.toNat < l.length → putAt i.toNat [v] l = l.set i.toNat v := fun l v hl => by
    simp only [putAt, List.length_cons, List.length_nil]
    rw [List.set_eq_take_append_cons_drop, if_pos hl]; simp
  rw [e _ _ hi']; unfold setI; rw [List.map_set]
/-- A function that is told under a condition. -/
theorem someIf {c : Prop} [Decidable c] {a v : AV} (h : (if c then some a else none) = some v) : c ∧ a = v := by
  split at h
  · rename_i hc; simp at h; exact ⟨hc, h⟩
  · cases h
/-- Maps by integers, as lists. -/
def fIdx {α : Type} (k : Int) : List (Int × α) → Nat → Option (Nat × α)
  | [], _ => none
  | (k', v) :: m, i => if k = k' then some (i, v) else fIdx k m (i + 1)
def mset {α : Type} (m : List (Int × α)) (k : Int) (v : α) : List (Int × α) := match fIdx k m 0 with
  | some (i, _) => m.set i (k, v)
  | none => m ++ [(k, v)]
def mget {α : Type} (m : List (Int × α)) (k : Int) : Option α := (fIdx k m 0).map (·.2)
theorem findA_map {α : Type} (f : α → AV) (k : Int) : ∀ (m : List (Int × α)) (i : Nat), findA (.int .i64 k) (m.map fun p => (AV.int .i64 p.1, f p.2)) i = some ((fIdx k m i).map fun q => (q.1, f q.2))
  | [], i => rfl
  | (k', v) :: m, i => by
    simp only [List.map_cons, findA, keyEq, if_true, fIdx]
    by_cases h : k = k'
    · subst h; simp
    · have : (k == k') = false := by simpa using h
      rw [this, if_neg h]
      exact findA_map f k m (i + 1)
theorem updR_map {α : Type} {f : α → AV} {r : Nat} {m : List (Int × α)} {k : Int} {v : α} {σ : List AObj} :
    updR r (m.map fun p => (AV.int .i64 p.1, f p.2)) (.int .i64 k) (f v) σ (findA (.int .i64 k) (m.map fun p => (AV.int .i64 p.1, f p.2)) 0) = some (.tup [], hset σ r (.map ((mset m k v).map fun p => (AV.int .i64 p.1, f p.2)))) := by
  rw [findA_map]
  unfold mset
  cases fIdx k m 0 with
  | none => simp [updR]
  | some q => simp [updR, List.map_set]
theorem lookR_map {α : Type} {f : α → AV} {m : List (Int × α)} {k : Int} {ok : Bool} {z : AV} {σ : List AObj} :
    lookR ok z σ (findA (.int .i64 k) (m.map fun p => (AV.int .i64 p.1, f p.2)) 0) = some (match mget m k with
      | some v => if ok then .tup [f v, .bool true] else f v
      | none => if ok then .tup [z, .bool false] else z, σ) := by
  rw [findA_map]
  unfold mget
  cases fIdx k m 0 with
  | none => rfl
  | some q => rfl
/-- A map from integers to integers, to truth values. -/
def mapI (m : List (Int × Int)) : List (AV × AV) := m.map fun p => (AV.int .i64 p.1, AV.int .i64 p.2)
def mapB (m : List (Int × Bool)) : List (AV × AV) := m.map fun p => (AV.int .i64 p.1, AV.bool p.2)
theorem lookI {m : List (Int × Int)} {k : Int} {σ : List AObj} : lookR false (.int .i64 0) σ (findA (.int .i64 k) (mapI m) 0) = some (.int .i64 ((mget m k).getD 0), σ) := by
  have := lookR_map (f := AV.int .i64) (m := m) (k := k) (ok := false) (z := .int .i64 0) (σ := σ)
  unfold mapI; rw [this]
  cases mget m k <;> rfl
theorem updI {m : List (Int × Int)} {k v : Int} {r : Nat} {σ : List AObj} : updR r (mapI m) (.int .i64 k) (.int .i64 v) σ (findA (.int .i64 k) (mapI m) 0) = some (.tup [], hset σ r (.map (mapI (mset m k v)))) := updR_map (f := AV.int .i64)
theorem lookB {m : List (Int × Bool)} {k : Int} {σ : List AObj} : lookR false (.bool false) σ (findA (.int .i64 k) (mapB m) 0) = some (.bool ((mget m k).getD false), σ) := by
  have := lookR_map (f := AV.bool) (m := m) (k := k) (ok := false) (z := .bool false) (σ := σ)
  unfold mapB; rw [this]
  cases mget m k <;> rfl
theorem lookB2 {m : List (Int × Bool)} {k : Int} {σ : List AObj} : lookR true (.bool false) σ (findA (.int .i64 k) (mapB m) 0) = some (.tup [.bool ((mget m k).getD false), .bool (mget m k).isSome], σ) := by
  have := lookR_map (f := AV.bool) (m := m) (k := k) (ok := true) (z := .bool false) (σ := σ)
  unfold mapB; rw [this]
  cases mget m k <;> rfl
theorem updB {m : List (Int × Bool)} {k : Int} {v : Bool} {r : Nat} {σ : List AObj} : updR r (mapB m) (.int .i64 k) (.bool v) σ (findA (.int .i64 k) (mapB m) 0) = some (.tup [], hset σ r (.map (mapB (mset m k v)))) := updR_map (f := AV.bool)
theorem fIdx_get {α : Type} {k : Int} : ∀ {m : List (Int × α)} {i j : Nat} {v : α}, fIdx k m i = some (j, v) → i ≤ j ∧ m[j - i]? = some (k, v)
  | [], i, j, v, h => by simp [fIdx] at h
  | (k', u) :: m, i, j, v, h => by
    simp only [fIdx] at h
    split at h
    · rename_i e; subst e; simp at h; obtain ⟨rfl, rfl⟩ := h; exact ⟨Nat.le_refl _, by simp⟩
    · obtain ⟨h1, h2⟩ := fIdx_get h
      refine ⟨by omega, ?_⟩
      have : j - i = (j - (i + 1)) + 1 := by omega
      rw [this]; simpa using h2
theorem mget_mem {α : Type} {m : List (Int × α)} {k : Int} {v : α} (h : mget m k = some v) : (k, v) ∈ m := by
  unfold mget at h
  cases hf : fIdx k m 0 with
  | none => rw [hf] at h; cases h
  | some q =>
    obtain ⟨j, u⟩ := q
    rw [hf] at h; simp at h; subst h
    exact List.mem_of_getElem? (fIdx_get hf).2
theorem mset_mem {α : Type} {m : List (Int × α)} {k : Int} {v : α} {p : Int × α} (h : p ∈ mset m k v) : p = (k, v) ∨ p ∈ m := by
  unfold mset at h
  split at h
  · rcases List.mem_or_eq_of_mem_set h with h | h
    · exact .inr h
    · exact .inl h
  · rcases List.mem_append.1 h with h | h
    · exact .inr h
    · simp at h; exact .inl h
theorem fIdx_append {α : Type} {k : Int} {v : α} : ∀ {m : List (Int × α)} {i : Nat}, fIdx k m i = none → fIdx k (m ++ [(k, v)]) i = some (i + m.length, v)
  | [], i, _ => by simp [fIdx]
  | (k', u) :: m, i, h => by
    simp only [fIdx] at h
    split at h
    · cases h
    · rename_i e
      simp only [List.cons_append, fIdx, if_neg e]
      rw [fIdx_append h]; simp; omega
theorem fIdx_set {α : Type} {k : Int} {v : α} : ∀ {m : List (Int × α)} {i j : Nat} {u : α}, fIdx k m i = some (j, u) → fIdx k (m.set (j - i) (k, v)) i = some (j, v)
  | [], i, j, u, h => by simp [fIdx] at h
  | (k', w) :: m, i, j, u, h => by
    simp only [fIdx] at h
    split at h
    · rename_i e; simp at h; obtain ⟨rfl, rfl⟩ := h; simp [fIdx]
    · rename_i e
      have h1 := (fIdx_get h).1
      have : j - i = (j - (i + 1)) + 1 := by omega
      rw [this, List.set_cons_succ]
      simp only [fIdx, if_neg e]
      exact fIdx_set h
theorem mget_mset {α : Type} {m : List (Int × α)} {k : Int} {v : α} : mget (mset m k v) k = some v := by
  unfold mset
  cases hf : fIdx k m 0 with
  | none => simp only [mget]; rw [fIdx_append hf]; rfl
  | some q =>
    obtain ⟨j, u⟩ := q
    have := fIdx_set (v := v) hf
    simp only [Nat.sub_zero] at this
    simp only [mget, this]; rfl
end Go.Mu
set_option linter.unusedSimpArgs false
set_option linter.unusedVariables false
namespace Go.Mu
open Go

theorem AYield.mono {P : Program} {r : Nat} {args : List AV} {σ : List AObj} {X Y : AV → List AObj → Prop} (h : AYield P r args σ X) (hn : ∀ v σ, X v σ → Y v σ) : AYield P r args σ Y := by
  intro K w cargs hR hV
  obtain ⟨fn, tmps, assign, body, h1, h2⟩ := h K w cargs hR hV
  exact ⟨fn, tmps, assign, body, h1, h2.mono fun e w' ⟨v, c, σ', K', g1, g2, g3⟩ => ⟨v, c, σ', K', g1, hn _ _ g2, g3⟩⟩
/-- Objects but some are as before. -/
def Same (M : Nat → Prop) (σ σ' : List AObj) : Prop := σ.length ≤ σ'.length ∧ ∀ q, q < σ.length → ¬ M q → hget σ' q = hget σ q
def SameOn (M : Nat → Prop) (σ σ' : List AObj) : Prop := σ.length ≤ σ'.length ∧ ∀ q, M q → hget σ' q = hget σ q
theorem Same.refl {M : Nat → Prop} {σ : List AObj} : Same M σ σ := ⟨Nat.le_refl _, fun _ _ _ => rfl⟩
theorem Same.trans {M : Nat → Prop} {σ σ' σ'' : List AObj} (h : Same M σ σ') (h' : Same M σ' σ'') : Same M σ σ'' :=
  ⟨Nat.le_trans h.1 h'.1, fun q hq hm => (h'.2 q (Nat.lt_of_lt_of_le hq h.1) hm).trans (h.2 q hq hm)⟩
theorem Same.get {M : Nat → Prop} {σ σ' : List AObj} (h : Same M σ σ') {q : Nat} {o : AObj} (hg : hget σ q = some o) (hm : ¬ M q) : hget σ' q = some o := by
  rw [h.2 q (hget_lt hg) hm]; exact hg
theorem hget_app {σ l : List AObj} {q : Nat} (h : q < σ.length) : hget (σ ++ l) q = hget σ q := by unfold hget; rw [List.getElem?_append_left h]
theorem Same.app {M : Nat → Prop} {σ l : List AObj} : Same M σ (σ ++ l) := ⟨by simp, fun q hq _ => hget_app hq⟩
theorem SameOn.app {M : Nat → Prop} {σ l : List AObj} (h : ∀ q, M q → q < σ.length) : SameOn M σ (σ ++ l) := ⟨by simp, fun q hq => hget_app (h q hq)⟩

/-- Who takes what an iterator hands out: what his objects are when he has taken some, and when he has left. -/
structure Taker (P : Program) (r : Nat) (L : List AV) where
  M : Nat → Prop
  C : List AV → List AObj → Prop
  St : List AV → List AObj → Prop
  lt : ∀ {D σ q}, C D σ → M q → q < σ.length
  keep : ∀ {D σ σ'}, C D σ → SameOn M σ σ' → C D σ'
  keepS : ∀ {D σ σ'}, St D σ → SameOn M σ σ' → St D σ'
  take : ∀ {D R σ v}, L = D ++ v :: R → C D σ → AYield P r [v] σ fun u σ' => Same M σ σ' ∧ (u = .bool true ∧ C (D ++ [v]) σ' ∨ u = .bool false ∧ St (D ++ [v]) σ')

/-- A function that hands out a list: to whoever takes it. -/
def Iter (P : Program) (g : FuncId) (p q : List AV) (σ : List AObj) (L : List AV) : Prop :=
  ∀ r (T : Taker P r L) σ', (∀ k, k < σ.length → hget σ' k = hget σ k ∧ ¬ T.M k) → σ.length ≤ σ'.length → T.C [] σ' →
    ACalls P g (p ++ [.yield r] ++ q) σ' fun _ σ'' => Same T.M σ' σ'' ∧ (T.C L σ'' ∨ ∃ D v R, L = D ++ v :: R ∧ T.St (D ++ [v]) σ'')

theorem hget_hset {σ : List AObj} {r q : Nat} {o : AObj} : hget (hset σ r o) q = if r = q ∧ q < σ.length then some o else hget σ q := by
  unfold hget hset
  rw [List.getElem?_set]
  by_cases h : r = q
  · subst h
    by_cases h2 : r < σ.length
    · simp [h2]
    · simp [h2]
  · simp [h]
/-- A RANGE OVER AN ITERATOR. -/
theorem ARun.rangeIter {E : Env} {f : Operand} {ps : Array Tmp} {as body : Code} {k : List Item} {fr : Fr} {g : FuncId} {p q : List AV} {σ0 σ1 : List AObj} {Q : Post} {L : List AV} (hf : aeval fr f = some (.fn (.func g) p q)) (hI : Iter E.P g p q σ0 L) (h0 : σ0.length ≤ σ1.length) (hs : ∀ k, k < σ0.length → hget σ1 k = hget σ0 k)
    (hps : ∃ t, ps = #[t] ∧ t < E.N) (M0 : Nat → Prop) (hM : ∀ q, M0 q → σ0.length ≤ q ∧ q < σ1.length) (Cc : List AV → List AObj → Prop) (Sc : Code → List AObj → Prop)
    (hC0 : Cc [] σ1) (hCk : ∀ {D τ τ'}, Cc D τ → (∀ q, M0 q → hget τ' q = hget τ q) → Cc D τ') (hSk : ∀ {j τ τ'}, Sc j τ → (∀ q, M0 q → hget τ' q = hget τ q) → Sc j τ')
    (hb : ∀ D v R fn τ, L = D ++ v :: R → Cc D τ → σ1.length < τ.length → hget τ σ1.length = some (.loop .ready none fn ps as body E.N fr) →
      ARun E (some σ1.length) [.code as, .beginRound, .code body] (frIn fr ps.toList [v]) τ fun j fr2 τ2 => Same (fun q => M0 q ∨ q = σ1.length) τ τ2 ∧ (∃ pend', hget τ2 σ1.length = some (.loop .busy pend' fn ps as body E.N fr)) ∧ (j = none ∧ Cc (D ++ [v]) τ2 ∨ ∃ jc, j = some jc ∧ (∀ t, jc ≠ .goto t) ∧ Sc jc τ2))
    (hk : ∀ τ, σ1.length < τ.length → (∀ q, q < σ1.length → ¬ M0 q → hget τ q = hget σ1 q) → Cc L τ → ARun E none k fr τ Q)
    (hk' : ∀ τ j, σ1.length < τ.length → (∀ q, q < σ1.length → ¬ M0 q → hget τ q = hget σ1 q) → Sc j τ → ARun E none (.code j :: k) fr τ Q) :
    ARun E none (.code (.rangeFunc f ps as body) :: k) fr σ1 Q := by
  obtain ⟨t0, rfl, ht0⟩ := hps
  refine ARun.rangeFunc hf fun fn => ?_
  let rec0 : AObj := .loop .ready none fn #[t0] as body E.N fr
  let T : Taker E.P σ1.length L := {
    M := fun q => M0 q ∨ q = σ1.length
    C := fun D τ => σ1.length < τ.length ∧ hget τ σ1.length = some rec0 ∧ Cc D τ
    St := fun D τ => σ1.length < τ.length ∧ ∃ j, hget τ σ1.length = some (.loop .done (some j) fn #[t0] as body E.N fr) ∧ Sc j τ
    lt := fun {D σ q} hc hm => by
      rcases hm with hm | hm
      · exact Nat.lt_trans (hM q hm).2 hc.1
      · subst hm; exact hc.1
    keep := fun {D σ σ'} hc hs => ⟨Nat.lt_of_lt_of_le hc.1 hs.1, by rw [hs.2 _ (.inr rfl)]; exact hc.2.1, hCk hc.2.2 fun q hq => hs.2 q (.inl hq)⟩
    keepS := fun {D σ σ'} hc hs => ⟨Nat.lt_of_lt_of_le hc.1 hs.1, by
      obtain ⟨j, h1, h2⟩ := hc.2
      exact ⟨j, by rw [hs.2 _ (.inr rfl)]; exact h1, hSk h2 fun q hq => hs.2 q (.inl hq)⟩⟩
    take := fun {D R τ v} hL hc => by
      obtain ⟨c1, c2, c3⟩ := hc
      refine AYield.of (E := E) (args := [v]) c2 rfl (by simpa using ht0) ((hb D v R fn τ hL c3 c1 c2).mono fun j fr2 τ2 hj => ?_)
      obtain ⟨hsame, ⟨pend', hp⟩, hcase⟩ := hj
      have hn := hget_lt hp
      have hne : ∀ q, M0 q → ∀ o, hget (hset τ2 σ1.length o) q = hget τ2 q := fun q hq o => by
        rw [hget_hset, if_neg]; intro h; have := (hM q hq).2; omega
      refine ⟨fun t ht => ?_, pend', hp, ⟨by rw [length_hset]; exact hsame.1, fun q hq hm => ?_⟩, ?_⟩
      · rcases hcase with ⟨h1, _⟩ | ⟨jc, h1, h2, _⟩
        · rw [h1] at ht; cases ht
        · rw [h1] at ht; simp at ht; exact h2 t ht
      · rw [hget_hset, if_neg (fun h => hm (.inr h.1.symm))]; exact hsame.2 q hq hm
      · rcases hcase with ⟨h1, h2⟩ | ⟨jc, h1, h2, h3⟩
        · left
          subst h1
          refine ⟨rfl, by rw [length_hset]; exact hn, ?_, hCk h2 fun q hq => hne q hq _⟩
          rw [hget_hset, if_pos ⟨rfl, hn⟩]; rfl
        · right
          subst h1
          refine ⟨rfl, by rw [length_hset]; exact hn, jc, ?_, hSk h3 fun q hq => hne q hq _⟩
          rw [hget_hset, if_pos ⟨rfl, hn⟩]; rfl }
  have hlen : (σ1 ++ [rec0]).length = σ1.length + 1 := by simp
  refine (hI σ1.length T (σ1 ++ [rec0]) (fun k hk => ⟨by rw [hget_app (by omega)]; exact hs k hk, fun hm => ?_⟩) (by omega) ⟨by omega, hget_at0, hCk hC0 fun q hq => hget_app (hM q hq).2⟩).mono fun v τ hv => ?_
  · rcases hm with hm | hm
    · have := (hM k hm).1; omega
    · omega
  · obtain ⟨hsame, hv⟩ := hv
    have hold : ∀ q, q < σ1.length → ¬ M0 q → hget (hset τ σ1.length .dead) q = hget σ1 q := fun q hq hm => by
      rw [hget_hset, if_neg (fun h => by omega), hsame.2 q (by omega) (fun h => by rcases h with h | h; exact hm h; omega)]
      exact hget_app hq
    rcases hv with ⟨c1, c2, c3⟩ | ⟨D, v', R, hL, c1, j, c2, c3⟩
    · exact ⟨.ready, none, by simp, c2, hk _ (by rw [length_hset]; exact c1) hold (hCk c3 fun q hq => by
        rw [hget_hset, if_neg]; intro h; have := (hM q hq).2; omega)⟩
    · exact ⟨.done, some j, by simp, c2, hk' _ j (by rw [length_hset]; exact c1) hold (hSk c3 fun q hq => by
        rw [hget_hset, if_neg]; intro h; have := (hM q hq).2; omega)⟩

theorem ARun.beginRound' {E : Env} {σ : List AObj} {Q : Post} {r : Nat} {k : List Item} {pend : Option Code} {fn : FuncId} {ps : Array Tmp} {as body : Code} {N : Nat} {fr fr0 : Fr} (hg : hget σ r = some (.loop .ready pend fn ps as body N fr0))
    (h : ∀ τ, τ.length = σ.length → (∀ q, q ≠ r → hget τ q = hget σ q) → hget τ r = some (.loop .busy pend fn ps as body N fr0) → ARun E (some r) k fr τ Q) : ARun E (some r) (.beginRound :: k) fr σ Q :=
  ARun.beginRound hg (h _ length_hset (fun q hq => by rw [hget_hset, if_neg]; intro h; exact hq h.1.symm) (hget_set hg _))
theorem app_of_same {σ τ : List AObj} (hl : σ.length ≤ τ.length) (h : ∀ q, q < σ.length → hget τ q = hget σ q) : ∃ junk, τ = σ ++ junk := by
  refine ⟨τ.drop σ.length, ?_⟩
  apply List.ext_getElem?
  intro i
  by_cases hi : i < σ.length
  · rw [List.getElem?_append_left hi]; exact h i hi
  · rw [List.getElem?_append_right (by omega), List.getElem?_drop]; congr 1; omega
theorem gives_same {σ τ : List AObj} {v v' : AV} (hl : σ.length ≤ τ.length) (h : ∀ q, q < σ.length → hget τ q = hget σ q) (hw : wk v' v) : Gives σ v v' τ := ⟨app_of_same hl h, hw⟩

/-- An object is looked at in another way. -/
theorem R.recell {K : Kr} {σ : List AObj} {w : World} (hR : R K σ w) {r : Nat} {cs cs' : List AV} (hg : hget σ r = some (.cells cs)) (h : ∀ cc, VRs K σ.length cs cc → VRs K σ.length cs' cc) :
    R K (hset σ r (.cells cs')) w ∧ Step K σ w K (hset σ r (.cells cs')) w := by
  obtain ⟨cc, E, h1, h2, h3, h4⟩ := hR.obj r _ hg
  exact hR.turn hg (K.φ r) rfl K (.refl _ _) (fun _ _ => rfl) (fun _ _ => rfl) rfl (fun _ _ _ => rfl) (fun p v hv => hR.stab _ _ _ hv) (fun b hb => hb) ⟨cc, E, h1, h _ h2, h3, h4⟩ rfl rfl rfl

/-- An empty list in a box becomes a list of our own. -/
theorem ARun.ghostC {E : Env} {ro : Option Nat} {todo : List Item} {fr : Fr} {σ : List AObj} {Q : Option Code → Fr → List AObj → Prop} (r sz : Nat) {sz0 : Nat} (hg : hget σ r = some (.cells [.list .full sz0 []]))
    (h : ARun E ro todo fr (hset σ r (.cells [.list (.own σ.length) sz []]) ++ [.tail 0 sz]) Q) : ARun E ro todo fr σ Q := by
  refine h.mind fun K w tmps hR hF => ?_
  obtain ⟨cc, T, h1, h2, h3, h4⟩ := hR.obj r _ hg
  have hr := hget_lt hg
  obtain ⟨c0, hc0⟩ : ∃ c, cc.toList = [c] := by
    have := h2.1
    match hcc : cc.toList with
    | [c] => exact ⟨c, rfl⟩
    | [] => rw [hcc] at this; simp at this
    | _ :: _ :: _ => rw [hcc] at this; simp at this
  have hv := h2
  rw [hc0] at hv
  have hv0 := hv.head
  cases hv0 with
  | list _ _ _ a cap f hl' ht ha hs h1' hh =>
    have hcap : cap = 0 := ht
    subst hcap
    let K' : Kr := { K with tl := fun q => if q = σ.length then fun m => if m = 0 then some (a, 0) else none else K.tl q }
    have he : Ext σ.length K K' := ⟨fun _ _ => rfl, fun r hr m x hx => by
      show (if r = σ.length then _ else K.tl r) m = some x
      rw [if_neg (by omega)]; exact hx, fun _ _ _ h => h⟩
    have htl : K'.tl σ.length = fun m => if m = 0 then some (a, 0) else none := by
      show (if σ.length = σ.length then _ else _) = _
      rw [if_pos rfl]
    obtain ⟨r1, r2⟩ := hR.ghostAt (σ' := σ ++ [.tail 0 sz]) σ.length (.tail 0 sz) K' he (by simp) (by simp) (fun q o' hq hg => by
      rw [List.getElem?_append] at hg
      split at hg
      · exact hg
      · cases hk : q - σ.length with
        | zero => omega
        | succ j => rw [hk] at hg; simp at hg) (fun q hq => by show (if q = σ.length then _ else K.tl q) = _; rw [if_neg hq]) rfl (fun b hb => by
      obtain ⟨a', cap', g1, g2, _⟩ := hb
      rw [htl] at g1; simp at g1; omega) ⟨a, 0, by rw [htl]; rfl, Nat.le_refl _, fun k hk => by rw [htl]; simp; omega, fun h => by omega⟩
    have hg' : hget (σ ++ [.tail 0 sz]) r = some (.cells [.list .full sz0 []]) := by rw [hget_app hr]; exact hg
    obtain ⟨cc2, T2, k1, k2, k3, k4⟩ := hR.obj r _ hg
    have hw : ∀ cc3 T3, w.heap[K.φ r]? = some (.cells cc3 T3 (0, 0)) → cc3 = cc := fun cc3 T3 hh => by
      rw [h1] at hh; simp at hh; exact hh.1.symm
    obtain ⟨cc4, T4, l1, l2, l3, l4⟩ := r1.obj r _ hg'
    have e4 : cc4 = cc := hw cc4 T4 l1
    obtain ⟨s1, s2⟩ := r1.turn (o' := .cells [.list (.own σ.length) sz []]) hg' (K'.φ r) rfl K' (.refl _ _) (fun _ _ => rfl) (fun _ _ => rfl) rfl (fun _ _ _ => rfl) (fun p v hv => r1.stab _ _ _ hv) (fun b hb => hb) ⟨cc, T, h1, by
      rw [hc0]
      exact .cons (.list (.own σ.length) sz [] a 0 f (Nat.le_refl _) ⟨by simp, by rw [htl]; rfl⟩ (fun h => absurd rfl h) (fun i hi => by simp at hi) (fun i j hi => by simp at hi) (fun i j hi => by simp at hi)) .nil, h3, h4⟩ rfl rfl rfl
    have eset : (σ ++ [AObj.tail 0 sz]).set r (.cells [.list (.own σ.length) sz []]) = hset σ r (.cells [.list (.own σ.length) sz []]) ++ [.tail 0 sz] := by
      unfold hset; rw [List.set_append_left _ _ hr]
    rw [eset] at s1 s2
    refine ⟨K', s1, ?_, r2.trans s2⟩
    have : (hset σ r (.cells [.list (.own σ.length) sz []]) ++ [AObj.tail 0 sz]).length = σ.length + 1 := by simp [length_hset]
    rw [this]
    exact hF.mono he (by omega)
end Go.Mu
set_option linter.unusedSimpArgs false
set_option linter.unusedVariables false
namespace Go.Mu
open Go

/-- A function that hands out a list, and looks at some objects alone. -/
def IterF (P : Program) (g : FuncId) (p q : List AV) (F : Nat → Prop) (σ : List AObj) (L : List AV) : Prop :=
  ∀ r (T : Taker P r L) σ', (∀ k, F k → hget σ' k = hget σ k ∧ ¬ T.M k) → T.C [] σ' →
    ACalls P g (p ++ [.yield r] ++ q) σ' fun _ σ'' => Same T.M σ' σ'' ∧ (T.C L σ'' ∨ ∃ D v R, L = D ++ v :: R ∧ T.St (D ++ [v]) σ'')
theorem ARun.rangeIterF {E : Env} {f : Operand} {ps : Array Tmp} {as body : Code} {k : List Item} {fr : Fr} {g : FuncId} {p q : List AV} {F : Nat → Prop} {σ0 σ1 : List AObj} {Q : Post} {L : List AV} (hf : aeval fr f = some (.fn (.func g) p q)) (hI : IterF E.P g p q F σ0 L) (hs : ∀ k, F k → hget σ1 k = hget σ0 k ∧ k < σ1.length)
    (hps : ∃ t, ps = #[t] ∧ t < E.N) (M0 : Nat → Prop) (hM : ∀ q, M0 q → ¬ F q ∧ q < σ1.length) (Cc : List AV → List AObj → Prop) (Sc : Code → List AObj → Prop)
    (hC0 : Cc [] σ1) (hCk : ∀ {D τ τ'}, Cc D τ → (∀ q, M0 q → hget τ' q = hget τ q) → Cc D τ') (hSk : ∀ {j τ τ'}, Sc j τ → (∀ q, M0 q → hget τ' q = hget τ q) → Sc j τ')
    (hb : ∀ D v R fn τ, L = D ++ v :: R → Cc D τ → σ1.length < τ.length → hget τ σ1.length = some (.loop .ready none fn ps as body E.N fr) →
      ARun E (some σ1.length) [.code as, .beginRound, .code body] (frIn fr ps.toList [v]) τ fun j fr2 τ2 => Same (fun q => M0 q ∨ q = σ1.length) τ τ2 ∧ (∃ pend', hget τ2 σ1.length = some (.loop .busy pend' fn ps as body E.N fr)) ∧ (j = none ∧ Cc (D ++ [v]) τ2 ∨ ∃ jc, j = some jc ∧ (∀ t, jc ≠ .goto t) ∧ Sc jc τ2))
    (hk : ∀ τ, σ1.length < τ.length → (∀ q, q < σ1.length → ¬ M0 q → hget τ q = hget σ1 q) → Cc L τ → ARun E none k fr τ Q)
    (hk' : ∀ τ j, σ1.length < τ.length → (∀ q, q < σ1.length → ¬ M0 q → hget τ q = hget σ1 q) → Sc j τ → ARun E none (.code j :: k) fr τ Q) :
    ARun E none (.code (.rangeFunc f ps as body) :: k) fr σ1 Q := by
  obtain ⟨t0, rfl, ht0⟩ := hps
  refine ARun.rangeFunc hf fun fn => ?_
  let rec0 : AObj := .loop .ready none fn #[t0] as body E.N fr
  let T : Taker E.P σ1.length L := {
    M := fun q => M0 q ∨ q = σ1.length
    C := fun D τ => σ1.length < τ.length ∧ hget τ σ1.length = some rec0 ∧ Cc D τ
    St := fun D τ => σ1.length < τ.length ∧ ∃ j, hget τ σ1.length = some (.loop .done (some j) fn #[t0] as body E.N fr) ∧ Sc j τ
    lt := fun {D σ q} hc hm => by
      rcases hm with hm | hm
      · exact Nat.lt_trans (hM q hm).2 hc.1
      · subst hm; exact hc.1
    keep := fun {D σ σ'} hc hs => ⟨Nat.lt_of_lt_of_le hc.1 hs.1, by rw [hs.2 _ (.inr rfl)]; exact hc.2.1, hCk hc.2.2 fun q hq => hs.2 q (.inl hq)⟩
    keepS := fun {D σ σ'} hc hs => ⟨Nat.lt_of_lt_of_le hc.1 hs.1, by
      obtain ⟨j, h1, h2⟩ := hc.2
      exact ⟨j, by rw [hs.2 _ (.inr rfl)]; exact h1, hSk h2 fun q hq => hs.2 q (.inl hq)⟩⟩
    take := fun {D R τ v} hL hc => by
      obtain ⟨c1, c2, c3⟩ := hc
      refine AYield.of (E := E) (args := [v]) c2 rfl (by simpa using ht0) ((hb D v R fn τ hL c3 c1 c2).mono fun j fr2 τ2 hj => ?_)
      obtain ⟨hsame, ⟨pend', hp⟩, hcase⟩ := hj
      have hn := hget_lt hp
      have hne : ∀ q, M0 q → ∀ o, hget (hset τ2 σ1.length o) q = hget τ2 q := fun q hq o => by
        rw [hget_hset, if_neg]; intro h; have := (hM q hq).2; omega
      refine ⟨fun t ht => ?_, pend', hp, ⟨by rw [length_hset]; exact hsame.1, fun q hq hm => ?_⟩, ?_⟩
      · rcases hcase with ⟨h1, _⟩ | ⟨jc, h1, h2, _⟩
        · rw [h1] at ht; cases ht
        · rw [h1] at ht; simp at ht; exact h2 t ht
      · rw [hget_hset, if_neg (fun h => hm (.inr h.1.symm))]; exact hsame.2 q hq hm
      · rcases hcase with ⟨h1, h2⟩ | ⟨jc, h1, h2, h3⟩
        · left
          subst h1
          refine ⟨rfl, by rw [length_hset]; exact hn, ?_, hCk h2 fun q hq => hne q hq _⟩
          rw [hget_hset, if_pos ⟨rfl, hn⟩]; rfl
        · right
          subst h1
          refine ⟨rfl, by rw [length_hset]; exact hn, jc, ?_, hSk h3 fun q hq => hne q hq _⟩
          rw [hget_hset, if_pos ⟨rfl, hn⟩]; rfl }
  have hlen : (σ1 ++ [rec0]).length = σ1.length + 1 := by simp
  refine (hI σ1.length T (σ1 ++ [rec0]) (fun k hk => ⟨by rw [hget_app (hs k hk).2]; exact (hs k hk).1, fun hm => ?_⟩) ⟨by omega, hget_at0, hCk hC0 fun q hq => hget_app (hM q hq).2⟩).mono fun v τ hv => ?_
  · rcases hm with hm | hm
    · exact (hM k hm).1 hk
    · have := (hs k hk).2; omega
  · obtain ⟨hsame, hv⟩ := hv
    have hold : ∀ q, q < σ1.length → ¬ M0 q → hget (hset τ σ1.length .dead) q = hget σ1 q := fun q hq hm => by
      rw [hget_hset, if_neg (fun h => by omega), hsame.2 q (by omega) (fun h => by rcases h with h | h; exact hm h; omega)]
      exact hget_app hq
    rcases hv with ⟨c1, c2, c3⟩ | ⟨D, v', R, hL, c1, j, c2, c3⟩
    · exact ⟨.ready, none, by simp, c2, hk _ (by rw [length_hset]; exact c1) hold (hCk c3 fun q hq => by
        rw [hget_hset, if_neg]; intro h; have := (hM q hq).2; omega)⟩
    · exact ⟨.done, some j, by simp, c2, hk' _ j (by rw [length_hset]; exact c1) hold (hSk c3 fun q hq => by
        rw [hget_hset, if_neg]; intro h; have := (hM q hq).2; omega)⟩
end Go.Mu
set_option linter.unusedSimpArgs false
set_option linter.unusedVariables false
namespace Go.Mu
open Go

theorem ARun.ghostK {E : Env} {ro : Option Nat} {todo : List Item} {fr : Fr} {σ : List AObj} {Q : Option Code → Fr → List AObj → Prop} (r k sz : Nat) {sz0 : Nat} {cs : List AV} (hg : hget σ r = some (.cells cs)) (hk : cs[k]? = some (.list .full sz0 []))
    (h : ARun E ro todo fr (hset σ r (.cells (cs.set k (.list (.own σ.length) sz []))) ++ [.tail 0 sz]) Q) : ARun E ro todo fr σ Q := by
  refine h.mind fun K w tmps hR hF => ?_
  obtain ⟨cc, T, h1, h2, h3, h4⟩ := hR.obj r _ hg
  have hr := hget_lt hg
  obtain ⟨hkl, hke⟩ := List.getElem?_eq_some_iff.1 hk
  have hkl' : k < cc.toList.length := by rw [← h2.1]; exact hkl
  have hv0 := h2.2 k hkl hkl'
  rw [hke] at hv0
  generalize hc0 : cc.toList[k] = c0 at hv0
  cases hv0 with
  | list _ _ _ a cap f hl' ht ha hs h1' hh =>
    have hcap : cap = 0 := ht
    subst hcap
    let K' : Kr := { K with tl := fun q => if q = σ.length then fun m => if m = 0 then some (a, 0) else none else K.tl q }
    have he : Ext σ.length K K' := ⟨fun _ _ => rfl, fun r hr m x hx => by
      show (if r = σ.length then _ else K.tl r) m = some x
      rw [if_neg (by omega)]; exact hx, fun _ _ _ h => h⟩
    have htl : K'.tl σ.length = fun m => if m = 0 then some (a, 0) else none := by
      show (if σ.length = σ.length then _ else _) = _
      rw [if_pos rfl]
    obtain ⟨r1, r2⟩ := hR.ghostAt (σ' := σ ++ [.tail 0 sz]) σ.length (.tail 0 sz) K' he (by simp) (by simp) (fun q o' hq hg => by
      rw [List.getElem?_append] at hg
      split at hg
      · exact hg
      · cases hk : q - σ.length with
        | zero => omega
        | succ j => rw [hk] at hg; simp at hg) (fun q hq => by show (if q = σ.length then _ else K.tl q) = _; rw [if_neg hq]) rfl (fun b hb => by
      obtain ⟨a', cap', g1, g2, _⟩ := hb
      rw [htl] at g1; simp at g1; omega) ⟨a, 0, by rw [htl]; rfl, Nat.le_refl _, fun k hk => by rw [htl]; simp; omega, fun h => by omega⟩
    have hg' : hget (σ ++ [.tail 0 sz]) r = some (.cells cs) := by rw [hget_app hr]; exact hg
    have h2' : VRs K' (σ ++ [AObj.tail 0 sz]).length (cs.set k (.list (.own σ.length) sz [])) cc.toList := by
      refine ⟨by rw [List.length_set]; exact h2.1, fun i h5 h6 => ?_⟩
      by_cases e : k = i
      · subst e
        rw [List.getElem_set_self]
        have : cc.toList[k] = .slice a 0 0 := hc0
        rw [this]
        exact .list (.own σ.length) sz [] a 0 f (Nat.le_refl _) ⟨by simp, by rw [htl]; rfl⟩ (fun h => absurd rfl h) (fun i hi => by simp at hi) (fun i j hi => by simp at hi) (fun i j hi => by simp at hi)
      · rw [List.getElem_set_ne e]
        exact (h2.2 i (by rw [List.length_set] at h5; exact h5) h6).mono he (by simp)
    obtain ⟨s1, s2⟩ := r1.turn (o' := .cells (cs.set k (.list (.own σ.length) sz []))) hg' (K'.φ r) rfl K' (.refl _ _) (fun _ _ => rfl) (fun _ _ => rfl) rfl (fun _ _ _ => rfl) (fun p v hv => r1.stab _ _ _ hv) (fun b hb => hb) ⟨cc, T, h1, h2', h3, h4⟩ rfl rfl rfl
    have eset : (σ ++ [AObj.tail 0 sz]).set r (.cells (cs.set k (.list (.own σ.length) sz []))) = hset σ r (.cells (cs.set k (.list (.own σ.length) sz []))) ++ [.tail 0 sz] := by
      unfold hset; rw [List.set_append_left _ _ hr]
    rw [eset] at s1 s2
    refine ⟨K', s1, ?_, r2.trans s2⟩
    have : (hset σ r (.cells (cs.set k (.list (.own σ.length) sz []))) ++ [AObj.tail 0 sz]).length = σ.length + 1 := by simp [length_hset]
    rw [this]
    exact hF.mono he (by omega)
end Go.Mu
