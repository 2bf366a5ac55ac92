/- From the lone machine, on every tape, to a tree of steps that bears whatever draws in between. -/
import Derived.Test.YtgbdndlmdklefaaGreatK39
import Derived.Test.YtgbdndlmdklefaaGreatK06
import Derived.Test.YtgbdndlmdklefaaGreatK18
import Derived.Shelf.Sort.Plain
set_option linter.unusedSimpArgs false
set_option linter.unusedVariables false
namespace Go.Mu
open Go Go.Conc
inductive Tree (P : Program) (R : Value → World → Prop) (f : FuncId) : Frame → List Frame → World → Prop
 | stop {fr : Frame} {w : World} (hm : fr.mode = .returning) (hd : fr.defers = []) (hf : fr.fn = f)
   (h : ∃ v fn, P.funcs[fr.fn]? = some fn ∧ (∀ u, (results fn fr.tmps).run P u = .ok v u ∧ ∀ es, (results fn fr.tmps).events P u es = es) ∧ ∃ τ d, R v (re w τ d)) : Tree P R f fr [] w
 | step {fr : Frame} {rest : List Frame} {w : World} (fr' : Nat → Frame) (rest' : Nat → List Frame) (w' : Nat → World) (h : ∀ d, Moves P fr rest (w.at d) (fr' d) (rest' d) (w' d)) (ht : ∀ d, Tree P R f (fr' d) (rest' d) (w' d)) : Tree P R f fr rest w
theorem Tree.step' {P : Program} {R : Value → World → Prop} {f : FuncId} {fr : Frame} {rest : List Frame} {w : World} (h : ∀ d, ∃ fr' rest' w', Moves P fr rest (w.at d) fr' rest' w' ∧ Tree P R f fr' rest' w') : Tree P R f fr rest w :=
 .step (fun d => (h d).choose) (fun d => (h d).choose_spec.choose) (fun d => (h d).choose_spec.choose_spec.choose) (fun d => (h d).choose_spec.choose_spec.choose_spec.1) (fun d => (h d).choose_spec.choose_spec.choose_spec.2)
/-! ### one tape out of many -/
def sumTo' (m : Nat → Nat) : Nat → Nat
 | 0 => 0
 | k + 1 => sumTo' m k + m k
theorem sumTo'_mono (m : Nat → Nat) {a b : Nat} (h : a ≤ b) : sumTo' m a ≤ sumTo' m b := by
 induction h with
 | refl => exact Nat.le_refl _
 | step _ ih => exact Nat.le_trans ih (Nat.le_add_right _ _)
theorem one_tape {α : Type} [Inhabited α] (src : Nat → Nat → α) (m : Nat → Nat) : ∃ τ : Nat → α, ∀ k j, j < m k → τ (sumTo' m k + j) = src k j := by
 classical
 refine ⟨fun i => if h : ∃ k, sumTo' m k ≤ i ∧ i < sumTo' m (k + 1) then src h.choose (i - sumTo' m h.choose) else default, fun k j hj => ?_⟩
 have hk : sumTo' m k ≤ sumTo' m k + j ∧ sumTo' m k + j < sumTo' m (k + 1) := ⟨Nat.le_add_right _ _, by show _ < sumTo' m k + m k; omega⟩
 have hex : ∃ k', sumTo' m k' ≤ sumTo' m k + j ∧ sumTo' m k + j < sumTo' m (k' + 1) := ⟨k, hk⟩
 simp only [dif_pos hex]
 have hc := hex.choose_spec
 have e : hex.choose = k := by
  rcases Nat.lt_trichotomy hex.choose k with h | h | h
  ·have := sumTo'_mono m (show hex.choose + 1 ≤ k from h); omega
  ·exact h
  ·have := sumTo'_mono m (show k + 1 ≤ hex.choose from h); omega
 rw [e]; congr 1; omega
theorem one_tape_end {α : Type} [Inhabited α] (src : Nat → Nat → α) (m : Nat → Nat) (n : Nat) (last : Nat → α) : ∃ τ : Nat → α, (∀ k j, k < n → j < m k → τ (sumTo' m k + j) = src k j) ∧ ∀ j, τ (sumTo' m n + j) = last j := by
 obtain ⟨τ, hτ⟩ := one_tape src m
 refine ⟨fun i => if i < sumTo' m n then τ i else last (i - sumTo' m n), fun k j hk hj => ?_, fun j => ?_⟩
 ·have := sumTo'_mono m (show k + 1 ≤ n from hk)
  have h2 : sumTo' m (k + 1) = sumTo' m k + m k := rfl
  simp only [show sumTo' m k + j < sumTo' m n by omega, if_true]
  exact hτ k j hj
 ·simp only [show ¬ sumTo' m n + j < sumTo' m n by omega, if_false]
  congr 1; omega
theorem least_of {p : Nat → Prop} (h : ∃ n, p n) : ∃ n, p n ∧ ∀ k, k < n → ¬ p k := by
 obtain ⟨n, hn⟩ := h
 induction n using Nat.strongRecOn with
 | _ n ih =>
  by_cases hk : ∃ k, k < n ∧ p k
  ·obtain ⟨k, h1, h2⟩ := hk; exact ih k h1 h2
  ·exact ⟨n, hn, fun k h1 h2 => hk ⟨k, h1, h2⟩⟩
/-! ### the caller of the lone run: it goes no further -/
def stopper (P : Program) : Frame := { fn := P.funcs.size, tmps := #[], todo := [.code (.refuse "")], defers := [{ target := .nil, args := #[] }], mode := .run, kind := .normal }
theorem step_solo_ended {P : Program} {a : Goroutine} {w w' : World} {o : Outcome} {es : Array Event} (hs : a.status = .running) (h : stepG P true a w = .ended o w' es) : ∃ o' w2, step P (solo a w) = .ended o' w2 := by
 have e := stepT_solo (P := P) (w := w) hs
 have h2 : ∃ o' w2 ops, runT P (solo a w) 0 = (.ended o' w2, ops) := by
  have := runT_many_ended (P := P) (gs := #[a]) (w := w) (sl := none) (i := 0) rfl (show stepG P (0 == 0) a w = _ from h)
  rw [← solo_eq_crowd] at this
  exact ⟨_, _, _, this⟩
 obtain ⟨o', w2, ops, h2⟩ := h2
 exact ⟨o', w2, by rw [step, e, h2]⟩
theorem runN_ended {P : Program} {m : Machine} {o : Outcome} {w : World} (h : step P m = .ended o w) : ∀ {n : Nat} {m' : Machine}, runN P (n + 1) m ≠ .next m' := by
 intro n m' e
 simp only [runN, h] at e
 cases e
theorem runN_next {P : Program} {m m1 : Machine} (h : step P m = .next m1) (n : Nat) : runN P (n + 1) m = runN P n m1 := by
 simp only [runN, h]
variable {P : Program} {L : FuncId → Bool}
theorem mkG_ret {kd : CallKind} {fr fr' : Frame} {rest : List Frame} {w w' : World} {c : Frame} (h : (solo (mkG kd [c] fr rest) w : Machine) = lone fr' [c] w') : rest = [] ∧ fr' = { fr with kind := kd } ∧ w = w' := by
 rw [lone_eq_solo] at h
 have h1 : mkG kd [c] fr rest = G fr' [c] := by
  have := congrArg Machine.gs h
  simpa [solo] using this
 have h2 : w = w' := congrArg Machine.world h
 unfold mkG G at h1
 simp only [Goroutine.mk.injEq] at h1
 obtain ⟨e1, e2, _⟩ := h1
 cases rest with
 | nil => exact ⟨rfl, e1.symm, h2⟩
 | cons x r =>
  exfalso
  have := congrArg List.length e2
  have hl : ∀ (r : List Frame), (mkCs kd [c] r).length = r.length + 1 := fun r => by
   induction r with
   | nil => rfl
   | cons y r ih => rw [mkCs_cons]; simp [ih]
  rw [hl] at this; simp at this
structure St where
 fr : Frame
 rest : List Frame
 w : World
def St.ok (P : Program) (L : FuncId → Bool) (f : FuncId) (s : St) : Prop := PlainF P L s.fr ∧ (∀ x ∈ s.rest, PlainF P L x) ∧ (s.fr :: s.rest).getLast?.map (·.fn) = some f
def St.end_ (P : Program) (s : St) : Prop := (s.rest = [] ∧ s.fr.mode ≠ .run) ∨ ∃ d, Dies P s.fr s.rest (s.w.at d)
theorem tree_of_lone (hL : LOK P L) {f : FuncId} (hf : L f = true) {args : Array Value} {w : World} {R : Value → World → Prop}
  (h : ∀ τ d, Calls P f args (re w τ d) fun e w' => ∃ v, e = .returned v ∧ R v w') : Tree P R f (Frame.enter P f args .normal) [] w := by
 classical
 apply Classical.byContradiction
 intro hn
 -- the way that never comes to an end
 have hnext : ∀ s : St, s.ok P L f → ¬ Tree P R f s.fr s.rest s.w → ¬ s.end_ P → ∃ (d : Nat) (s' : St), Moves P s.fr s.rest (s.w.at d) s'.fr s'.rest s'.w ∧ s'.ok P L f ∧ ¬ Tree P R f s'.fr s'.rest s'.w := by
  intro s hok hnt hne
  have hnd : ∃ d, ¬ ∃ fr' rest' w', Moves P s.fr s.rest (s.w.at d) fr' rest' w' ∧ Tree P R f fr' rest' w' := by
   apply Classical.byContradiction
   intro hc
   exact hnt (.step' fun d => Classical.byContradiction fun hd => hc ⟨d, hd⟩)
  obtain ⟨d, hd⟩ := hnd
  rcases step_plain (w := s.w.at d) hL hok.1 hok.2.1 (fun e => Classical.byContradiction fun hm => hne (.inl ⟨e, hm⟩)) with ⟨fr', rest', w', h1, h2, h3, h4⟩ | h1
  ·exact ⟨d, ⟨fr', rest', w'⟩, h4, ⟨h1, h2, h3.trans hok.2.2⟩, fun ht => hd ⟨fr', rest', w', h4, ht⟩⟩
  ·exact absurd (.inr ⟨d, h1⟩) hne
 let s0 : St := ⟨Frame.enter P f args .normal, [], w⟩
 have hs0 : s0.ok P L f := ⟨.enter hL hf args, by simp [s0], rfl⟩
 let good : St → Prop := fun s => s.ok P L f ∧ ¬ Tree P R f s.fr s.rest s.w
 have hstep : ∀ s : {s : St // good s}, ∃ p : Nat × {s : St // good s}, s.1.end_ P ∨ Moves P s.1.fr s.1.rest (s.1.w.at p.1) p.2.1.fr p.2.1.rest p.2.1.w := by
  intro s
  by_cases he : s.1.end_ P
  ·exact ⟨(0, s), .inl he⟩
  ·obtain ⟨d, s', h1, h2, h3⟩ := hnext s.1 s.2.1 s.2.2 he
   exact ⟨(d, ⟨s', h2, h3⟩), .inr h1⟩
 let nx : {s : St // good s} → Nat × {s : St // good s} := fun s => (hstep s).choose
 have hnx : ∀ s, s.1.end_ P ∨ Moves P s.1.fr s.1.rest (s.1.w.at (nx s).1) (nx s).2.1.fr (nx s).2.1.rest (nx s).2.1.w := fun s => (hstep s).choose_spec
 let seq : Nat → {s : St // good s} := fun n => Nat.rec ⟨s0, hs0, hn⟩ (fun _ s => (nx s).2) n
 have hseq : ∀ n, seq (n + 1) = (nx (seq n)).2 := fun n => rfl
 let dd : Nat → Nat := fun n => (nx (seq n)).1
 let mm : Nat → Nat := fun n => (seq (n + 1)).1.w.drawn - dd n
 have htape : ∀ n, (∀ k, k < n → ¬ (seq k).1.end_ P) → (seq n).1.w.tape = w.tape := by
  intro n
  induction n with
  | zero => intro _; rfl
  | succ n ih =>
   intro hk
   have h1 := ih fun k hk' => hk k (by omega)
   have h2 := (hnx (seq n)).resolve_left (hk n (by omega))
   rw [hseq]
   exact h2.tape.trans h1
 -- the lone run along a tape that answers as the way does
 have along : ∀ (n : Nat) (τ : Nat → Question → Nat), (∀ k, k < n → ¬ (seq k).1.end_ P) → (∀ k j, k < n → j < mm k → τ (sumTo' mm k + j) = w.tape (dd k + j)) →
   ∀ m : Nat, runN P (n + m) (lone (Frame.enter P f args .normal) [stopper P] (re w τ 0)) = runN P m (solo (mkG .normal [stopper P] (seq n).1.fr (seq n).1.rest) (re (seq n).1.w τ (sumTo' mm n))) := by
  intro n τ
  induction n with
  | zero => intro _ _ m; rw [Nat.zero_add]; rfl
  | succ n ih =>
   intro hk hτ m
   rw [show n + 1 + m = n + (m + 1) by omega, ih (fun k hk' => hk k (by omega)) (fun k j hk' hj => hτ k j (by omega) hj) (m + 1)]
   have hM := (hnx (seq n)).resolve_left (hk n (by omega))
   have hdr := hM.dr
   have e1 : ((seq n).1.w.at (nx (seq n)).1).drawn = dd n := rfl
   have hag : Agree ((seq n).1.w.at (nx (seq n)).1) τ (sumTo' mm n) ((nx (seq n)).2.1.w.drawn - ((seq n).1.w.at (nx (seq n)).1).drawn) := fun j hj => by
    rw [e1] at hj ⊢
    have ht : ((seq n).1.w.at (nx (seq n)).1).tape = w.tape := htape n fun k hk' => hk k (by omega)
    rw [ht]
    exact hτ n j (by omega) hj
   obtain ⟨es, h1, _⟩ := hM.go τ (sumTo' mm n) hag .normal [stopper P]
   have h2 := step_solo_go (P := P) rfl h1
   have e2 : re ((seq n).1.w.at (nx (seq n)).1) τ (sumTo' mm n) = re (seq n).1.w τ (sumTo' mm n) := rfl
   rw [e2] at h2
   rw [runN_next h2]
   rfl
 have fin : ∀ (τ : Nat → Question → Nat), ∃ N fr v w', runN P N (lone (Frame.enter P f args .normal) [stopper P] (re w τ 0)) = .next (lone fr [stopper P] w') ∧ fr.leaving P w' (.returned v) ∧ R v w' := by
  intro τ
  obtain ⟨e, w', fr, ⟨v, rfl, hR⟩, ⟨N, hN⟩, _, hl⟩ := h τ 0 [stopper P]
  exact ⟨N, fr, v, w', hN, hl, hR⟩
 by_cases hany : ∃ n, (seq n).1.end_ P
 ·obtain ⟨n, hend, hleast⟩ := least_of hany
  obtain ⟨last, hlast⟩ : ∃ last : Nat → Question → Nat, ((seq n).1.rest = [] ∧ (seq n).1.fr.mode ≠ .run) ∨ ∃ d, Dies P (seq n).1.fr (seq n).1.rest ((seq n).1.w.at d) ∧ ∀ j, last j = w.tape (d + j) := by
   rcases hend with h1 | ⟨d, h1⟩
   ·exact ⟨fun _ _ => 0, .inl h1⟩
   ·exact ⟨fun j => w.tape (d + j), .inr ⟨d, h1, fun _ => rfl⟩⟩
  obtain ⟨τ, hτ, hτl⟩ := one_tape_end (fun k j => w.tape (dd k + j)) mm n last
  obtain ⟨N, fr, v, w', hN, hl, hR⟩ := fin τ
  rcases Nat.lt_trichotomy N n with hlt | rfl | hgt
  ·have h1 := along N τ (fun k hk => hleast k (by omega)) (fun k j hk hj => hτ k j (by omega) hj) 0
   rw [Nat.add_zero, hN] at h1
   simp only [runN, Stepped.next.injEq] at h1
   obtain ⟨k1, k2, k3⟩ := mkG_ret h1.symm
   exact hleast N hlt (.inl ⟨k1, by rw [show (seq N).1.fr.mode = fr.mode by rw [k2], hl.1]; simp⟩)
  ·have h1 := along N τ hleast hτ 0
   rw [Nat.add_zero, hN] at h1
   simp only [runN, Stepped.next.injEq] at h1
   obtain ⟨k1, k2, k3⟩ := mkG_ret h1.symm
   have hok := (seq N).2.1
   have hfn : (seq N).1.fr.fn = f := by
    have := hok.2.2
    rw [k1] at this
    simpa using this
   obtain ⟨hl1, _, _, fn, hl4, hl5⟩ := hl
   have e1 : fr.fn = (seq N).1.fr.fn := by rw [k2]
   have e2 : fr.tmps = (seq N).1.fr.tmps := by rw [k2]
   rw [e1] at hl4
   rw [e2] at hl5
   obtain ⟨fn', c, g1, _, _, _, g5⟩ := hL.fn _ hok.1.fn
   rw [hl4] at g1
   cases g1
   obtain ⟨v', hv'⟩ := g5 (seq N).1.fr.tmps
   have : v = v' := by
    have := (hv' w').1
    rw [hl5] at this
    simpa using this
   subst this
   refine (seq N).2.2 ?_
   rw [k1]
   exact .stop (by rw [show (seq N).1.fr.mode = fr.mode by rw [k2]]; exact hl1) hok.1.defers hfn ⟨v, fn, hl4, hv', τ, sumTo' mm N, by rw [k3]; exact hR⟩
  ·obtain ⟨m, rfl⟩ : ∃ m, N = n + (m + 1) := ⟨N - n - 1, by omega⟩
   rw [along n τ hleast hτ (m + 1)] at hN
   rcases hlast with ⟨k1, k2⟩ | ⟨d, k1, k2⟩
   ·rw [k1] at hN
    have hok : PlainF P L (seq n).1.fr := (seq n).2.1.1
    generalize (seq n).1.fr = fr0 at hN k2 hok
    generalize re (seq n).1.w τ (sumTo' mm n) = u at hN
    have two : ∀ (a : Frame), stepG P true (mkG .normal [stopper P] fr0 []) u = .go (G a []) u #[] → (∃ o w2 es, stepG P true (G a []) u = .ended o w2 es) → False := by
     intro a h1 ⟨o, w2, es, h2⟩
     rw [runN_next (step_solo_go rfl h1)] at hN
     cases m with
     | zero =>
      simp only [runN, Stepped.next.injEq] at hN
      rw [lone_eq_solo] at hN
      have := congrArg Machine.gs hN
      simp [solo, G] at this
     | succ m =>
      obtain ⟨o', w3, h3⟩ := step_solo_ended (P := P) rfl h2
      exact runN_ended h3 hN
    obtain ⟨fn, _, g1, _, _, _, g5⟩ := hL.fn _ hok.fn
    cases hm : fr0.mode with
    | run => exact k2 hm
    | returning =>
     obtain ⟨v', hv'⟩ := g5 fr0.tmps
     refine two (stopper P) ?_ ?_
     ·unfold mkG G stepG
      simp only [mkFr, hm, mkCs]
      unfold unwind
      simp only [hok.defers, hm, g1, Sem.runT_eq, (hv' u).1, (hv' u).2, doReturn]
      simp [GStep.after, seen, stopper, Frame.finish]
     ·unfold G stepG stopper
      simp only
      unfold stepG.exec
      exact ⟨_, _, _, rfl⟩
    | panicking chain =>
     refine two ((stopper P).raise chain) ?_ ?_
     ·have hcat : ∀ x : Frame, x.fn = fr0.fn → x.catches P = false := fun x hx => by unfold Frame.catches; rw [hx, g1]
      unfold mkG G stepG
      simp only [mkFr, hm, mkCs]
      unfold unwind
      simp only [hok.defers, hm]
      rw [if_neg (fun hc => by exact absurd (hc.symm.trans (hcat _ (by rfl))) (by decide))]
     ·unfold G stepG stopper Frame.raise
      simp only
      unfold unwind
      simp only [callDeferred]
      exact ⟨_, _, _, rfl⟩
   ·have hag : ∀ k, Agree ((seq n).1.w.at d) τ (sumTo' mm n) k := fun k j _ => by
     have ht : ((seq n).1.w.at d).tape = w.tape := htape n hleast
     rw [ht, hτl, k2]; rfl
    obtain ⟨o, w1, es, h1⟩ := k1 τ (sumTo' mm n) hag .normal [stopper P]
    obtain ⟨o', w3, h3⟩ := step_solo_ended (P := P) rfl h1
    exact runN_ended h3 hN
 ·have hne : ∀ n, ¬ (seq n).1.end_ P := fun n hn' => hany ⟨n, hn'⟩
  obtain ⟨τ, hτ⟩ := one_tape (fun k j => w.tape (dd k + j)) mm
  obtain ⟨N, fr, v, w', hN, hl, hR⟩ := fin τ
  have h1 := along N τ (fun k _ => hne k) (fun k j _ hj => hτ k j hj) 0
  rw [Nat.add_zero, hN] at h1
  simp only [runN, Stepped.next.injEq] at h1
  obtain ⟨k1, k2, k3⟩ := mkG_ret h1.symm
  exact hne N (.inl ⟨k1, by rw [show (seq N).1.fr.mode = fr.mode by rw [k2], hl.1]; simp⟩)
end Go.Mu
namespace Go.Mu
open Go Go.Conc
variable {P : Program}
theorem Tree.fin {R : Value → World → Prop} {f : FuncId} {Post : Goroutine → World → (Nat → Prop) → Prop} {kd : CallKind} {cs : List Frame} {fr : Frame} {rest : List Frame} {w : World} (h : Tree P R f fr rest w)
  (hp : ∀ (fr : Frame) (w' : World), w'.tape = w.tape → fr.mode = .returning → fr.defers = [] → fr.fn = f → (∃ v fn, P.funcs[fr.fn]? = some fn ∧ (∀ u, (results fn fr.tmps).run P u = .ok v u ∧ ∀ es, (results fn fr.tmps).events P u es = es) ∧ ∃ τ d, R v (re w' τ d)) → ∃ V', Post (G { fr with kind := kd } cs) w' V') :
  ∀ gs sl t qs, gs[0]? = some (mkG kd cs fr rest) → LInv P gs w t qs → FinB P Post gs w sl t := by
 induction h with
 | stop h1 h2 h3 h4 =>
  intro gs sl t qs h0 hI
  obtain ⟨V', hV⟩ := hp _ _ rfl h1 h2 h3 h4
  exact ⟨0, gs, _, _, sl, t, V', _, qs, rfl, h0, hI, .refl _ _, hV⟩
 | @step fr rest w fr' rest' w' hm ht ih =>
  intro gs sl t qs h0 hI
  have hacc := LInv.acc qs
  have hg : (mkG kd cs fr rest).status = .running := rfl
  suffices ∀ d, ∀ gs sl t, gs[0]? = some (mkG kd cs fr rest) → LInv P gs (w.at d) t qs → FinB P Post gs (w.at d) sl t by
   have := this w.drawn gs sl t h0 (hI.draw _)
   exact this
  clear h0 hI gs sl t
  induction hacc with
  | intro qs _ ihq =>
   intro d gs sl t h0 hI
   obtain ⟨i, g1, d', sl', hi, hrun, hst⟩ := crowd_pick (P := P) (w := w.at d) (sl := sl) (hI.awake h0 (awake_of (.inl hg))) ⟨0, _, h0, hg⟩
   have e : (w.at d).at d' = w.at d' := rfl
   rw [e] at hst
   have hI' : LInv P gs (w.at d') t qs := hI.draw d'
   cases i with
   | zero =>
    obtain ⟨es, k1, k2⟩ := (hm d').plain kd cs
    have hrunT := runT_crowd_go (P := P) (sl := sl') (i := 0) h0 (show stepG P (0 == 0) _ (w.at d') = _ from k1)
    rw [hI'.calm (w' d') h0 hg] at hrunT
    refine FinB.step (hst.trans hrunT) (ih d' (fun fr w1 ht => hp fr w1 (ht.trans (hm d').tape)) _ _ _ qs ?_ ?_)
    ·rw [Array.getElem?_setIfInBounds_self_of_lt (Array.getElem?_eq_some_iff.1 h0).1]
    ·refine hI'.any (hm d').size (fun op hop => ?_) (fun op hop m hm' => ?_) fun op hop => ?_
     ·obtain ⟨e, he, rfl⟩ := Conc.mem_ofEvents hop; rfl
     ·obtain ⟨e, he, rfl⟩ := Conc.mem_ofEvents hop; exact (k2 e he).1 m hm'
     ·obtain ⟨e, he, rfl⟩ := Conc.mem_ofEvents hop; exact (k2 e he).2
   | succ i =>
    obtain ⟨gs', qs', k1, k2, k3, k4⟩ := hI'.slip (sl := sl') h0 hg hi hrun
    exact FinB.step (hst.trans k1) (ihq qs' k4 d' gs' sl' _ k2 (by rw [Array.append_empty]; exact k3))
theorem acalls_of_lone {L : FuncId → Bool} (hL : LOK P L) {f : FuncId} (hf : L f = true) (hC : Callable P f) {args : List AV} {σ : List AObj} {Q : AV → List AObj → Prop}
  (h : ∀ (K : Kr) (w : World) (cargs : Array Value), R K σ w → VRs K σ.length args cargs.toList → Calls P f cargs w fun e w' => ∃ v, e = .returned v ∧
   ∃ u σ' K', VR K' σ'.length u v ∧ Q u σ' ∧ R K' σ' w' ∧ Step K σ w K' σ' w') : ACalls (fun M => M = Bes P) f args σ Q := by
 refine ⟨hC, fun M hM => ?_⟩
 subst hM
 intro K w V cargs kd cs hR hO hA w₀ hrel gs sl t qs h0 hI
 have hR0 := hR.rely hO hrel
 have hO0 : OwnV (Bes P).Sh V K σ w₀ := hO.rely hrel
 have hRre : ∀ τ d, R K σ (re w₀ τ d) := fun τ d => hR0.same (fun _ _ _ _ => rfl) (fun _ _ => rfl) fun g cs hg => (hR0.lay g cs hg).1
 have hT := tree_of_lone hL hf (args := cargs) (w := w₀) (R := fun v w' => ∃ τ d, (∃ u σ' K', VR K' σ'.length u v ∧ Q u σ' ∧ R K' σ' w' ∧ Step K σ (re w₀ τ d) K' σ' w')) fun τ d =>
  (h K (re w₀ τ d) cargs (hRre τ d) hA).mono fun e w' ⟨v, h1, h2⟩ => ⟨v, h1, τ, d, h2⟩
 refine hT.fin (kd := kd) (cs := cs) ?_ gs sl t qs h0 hI
 intro fr w' htp hm hd hfn ⟨v, fn, k1, k2, τ', d', τ, d, u, σ', K', k3, k4, k5, k6⟩
 -- the step, seen in the world that is there
 have k5' : R K' σ' w' := k5.same (fun _ _ _ _ => rfl) (fun _ _ => rfl) fun g cs hg => (k5.lay g cs hg).1
 have hS : Step K σ w₀ K' σ' { w' with drawn := max w'.drawn w₀.drawn } := ⟨k6.ext, k6.len, k6.size, k6.keep, k6.os, htp, k6.output, k6.froz, Nat.le_max_right _ _⟩
 have k5'' : R K' σ' { w' with drawn := max w'.drawn w₀.drawn } := k5.same (fun _ _ _ _ => rfl) (fun _ _ => rfl) fun g cs hg => (k5.lay g cs hg).1
 have hO' := hO0.step k5'' hS
 have hSV : StepV V K σ w₀ (Newer V w₀.heap.size w'.heap.size) K' σ' w' := by
  have := StepV.of_step (V := V) hS
  exact ⟨this.ext, this.len, this.size, this.keep, this.sub, this.new, this.os, this.tape, this.output⟩
 refine ⟨Newer V w₀.heap.size w'.heap.size, { fr with kind := kd }, u, σ', K', rfl, hfn, rfl, ⟨hm, hd, fn, k1, fun w₁ hr => ⟨v, (k2 w₁).1, k3, fun e he => ?_⟩⟩, k4, k5', ⟨hO'.obj, hO'.stab, hO'.lay, hO'.sh⟩, (StepV.of_rel hrel).trans hSV⟩
 rw [(k2 w₁).2] at he; simp at he
end Go.Mu
namespace Go.Mu
open Go Go.Conc
section
variable {P : Program} {α β : Type}
theorem Qt_mono {s : Sem α} {Φ Ψ : α → Prop} (h : Qt P s Φ) (hi : ∀ a, Φ a → Ψ a) : Qt P s Ψ := by
 induction s with
 | pure a => exact hi _ h
 | load m a k ih => exact fun v => ih v (h v)
 | store m a v k ih => exact ih h
 | new o k ih => exact fun r => ih r (h r)
 | shape r k ih => exact fun s => ih s (h s)
 | freeze a n k ih => exact ih h
 | frozen a k ih => exact fun b => ih b (h b)
 | getObj r k ih => exact fun o => ih o (h o)
 | setObj r o k ih => exact ih h
 | choose q k ih => exact fun n => ih n (h n)
 | sys c k ih => exact h
 | program k ih => exact ih P h
 | mark m k ih => exact ⟨h.1, ih h.2⟩
 | halt h' => exact h
theorem Qt_bind {x : Sem α} {f : α → Sem β} {Φ : β → Prop} (h : Qt P x fun a => Qt P (f a) Φ) : Qt P (x >>= f) Φ := by
 show Qt P (x.bind f) Φ
 induction x with
 | pure a => exact h
 | load m a k ih => exact fun v => ih v (h v)
 | store m a v k ih => exact ih h
 | new o k ih => exact fun r => ih r (h r)
 | shape r k ih => exact fun s => ih s (h s)
 | freeze a n k ih => exact ih h
 | frozen a k ih => exact fun b => ih b (h b)
 | getObj r k ih => exact fun o => ih o (h o)
 | setObj r o k ih => exact ih h
 | choose q k ih => exact fun n => ih n (h n)
 | sys c k ih => exact h
 | program k ih => exact ih P h
 | mark m k ih => exact ⟨h.1, ih h.2⟩
 | halt h' => exact h
def Qa (P : Program) (s : Sem α) : Prop := Qt P s fun _ => True
theorem Qa_bind {x : Sem α} {f : α → Sem β} (h : Qa P x) (hf : ∀ a, Qa P (f a)) : Qa P (x >>= f) := Qt_bind (Qt_mono h fun a _ => hf a)
class Qi (P : Program) (s : Sem α) : Prop where
 qa : Qa P s
theorem Qa_pure {a : α} : Qa P (Pure.pure a : Sem α) := trivial
instance {a : α} : Qi P (Pure.pure a : Sem α) := ⟨trivial⟩
instance {x : Sem α} {f : α → Sem β} [h : Qi P x] [hf : ∀ a, Qi P (f a)] : Qi P (x >>= f) := ⟨Qa_bind h.qa fun a => (hf a).qa⟩
instance {c : Prop} [Decidable c] {x y : Sem α} [h : Qi P x] [h' : Qi P y] : Qi P (if c then x else y) := ⟨by split <;> first | exact h.qa | exact h'.qa⟩
theorem Qa_map {x : Sem α} {f : α → β} (h : Qa P x) : Qa P (Functor.map f x) := by
 show Qa P (x >>= fun a => Sem.pure (f a))
 exact Qa_bind h fun a => trivial
theorem Qa_forIn {f : α → β → Sem (ForInStep β)} (hf : ∀ a b, Qa P (f a b)) : ∀ (l : List α) (b : β), Qa P (forIn l b f)
 | [], b => by rw [List.forIn_nil]; exact Qa_pure
 | a :: l, b => by
  rw [List.forIn_cons]
  refine Qa_bind (hf a b) fun r => ?_
  cases r with
  | done b => exact Qa_pure
  | yield b => exact Qa_forIn hf l b
theorem Qa_forInA {f : α → β → Sem (ForInStep β)} (hf : ∀ a b, Qa P (f a b)) (l : Array α) (b : β) : Qa P (forIn l b f) := by
 rw [← Array.forIn_toList]; exact Qa_forIn hf _ _
theorem Qa_forInR {f : Nat → β → Sem (ForInStep β)} (hf : ∀ a b, Qa P (f a b)) (n : Nat) (b : β) : Qa P (forIn [0:n] b f) := by
 rw [Std.Legacy.Range.forIn_eq_forIn_range']; exact Qa_forIn hf _ _
instance {s : String} : Qi P (stuck s : Sem α) := ⟨trivial⟩
instance {u : Unsupported} : Qi P (unsupported u : Sem α) := ⟨trivial⟩
instance {v : Value} : Qi P (goPanic v : Sem α) := ⟨trivial⟩
instance : Qi P program := ⟨trivial⟩
instance {a : Addr} {m : Mode} : Qi P (load a m) := ⟨fun _ => trivial⟩
instance {a : Addr} {v : Value} {m : Mode} : Qi P (store a v m) := ⟨trivial⟩
instance {o : Obj} : Qi P (newObj o) := ⟨fun _ => trivial⟩
instance {r : Nat} : Qi P (shape r) := ⟨fun _ => trivial⟩
instance {a : Addr} {n : Nat} : Qi P (freeze a n) := ⟨trivial⟩
instance {a : Addr} : Qi P (frozen a) := ⟨fun _ => trivial⟩
instance {r : Nat} : Qi P (getObj r) := ⟨fun _ => trivial⟩
instance {r : Nat} {o : Obj} : Qi P (setObj r o) := ⟨trivial⟩
instance {q : Question} : Qi P (choose q) := ⟨fun _ => trivial⟩
instance Qa_typeInfo {t : TypeId} : Qi P (typeInfo t) := ⟨by
 unfold typeInfo
 repeat' first | exact Qi.qa | refine Qa_map ?_ | refine Qa_bind ?_ fun _ => ?_ | split | dsimp only⟩
instance Qa_underlying {t : TypeId} : Qi P (underlying t) := ⟨by
 unfold underlying
 repeat' first | exact Qi.qa | refine Qa_map ?_ | refine Qa_bind ?_ fun _ => ?_ | split | dsimp only⟩
instance Qa_zeroValue {t : TypeId} : Qi P (zeroValue t) := ⟨by
 unfold zeroValue
 repeat' first | exact Qi.qa | refine Qa_map ?_ | refine Qa_bind ?_ fun _ => ?_ | split | dsimp only⟩
instance Qa_sizeOf {t : TypeId} : Qi P (sizeOf t) := ⟨by
 unfold sizeOf
 repeat' first | exact Qi.qa | refine Qa_map ?_ | refine Qa_bind ?_ fun _ => ?_ | split | dsimp only⟩
instance Qa_isAgg {t : TypeId} : Qi P (isAgg t) := ⟨by
 unfold isAgg
 repeat' first | exact Qi.qa | refine Qa_map ?_ | refine Qa_bind ?_ fun _ => ?_ | split | dsimp only⟩
instance Qa_typeStr {t : TypeId} : Qi P (typeStr t) := ⟨by
 unfold typeStr
 repeat' first | exact Qi.qa | refine Qa_map ?_ | refine Qa_bind ?_ fun _ => ?_ | split | dsimp only⟩
instance Qa_runtimePanic {e : RuntimeError} : Qi P (runtimePanic e : Sem α) := ⟨by
 unfold runtimePanic
 repeat' first | exact Qi.qa | refine Qa_map ?_ | refine Qa_bind ?_ fun _ => ?_ | split | dsimp only⟩
instance Qa_boundsPanic {k : IntKind} {x y : Int} {c : BoundsCode} : Qi P (boundsPanic k x y c : Sem α) := ⟨by
 unfold boundsPanic
 repeat' first | exact Qi.qa | refine Qa_map ?_ | refine Qa_bind ?_ fun _ => ?_ | split | dsimp only⟩
instance Qa_asIntOf {v : Value} : Qi P (asIntOf v) := ⟨by
 unfold asIntOf
 repeat' first | exact Qi.qa | refine Qa_map ?_ | refine Qa_bind ?_ fun _ => ?_ | split | dsimp only⟩
instance Qa_asBool {v : Value} : Qi P (asBool v) := ⟨by
 unfold asBool
 repeat' first | exact Qi.qa | refine Qa_map ?_ | refine Qa_bind ?_ fun _ => ?_ | split | dsimp only⟩
instance Qa_asAddr {v : Value} : Qi P (asAddr v) := ⟨by
 unfold asAddr
 repeat' first | exact Qi.qa | refine Qa_map ?_ | refine Qa_bind ?_ fun _ => ?_ | split | dsimp only⟩
instance Qa_asAgg {v : Value} : Qi P (asAgg v) := ⟨by
 unfold asAgg
 repeat' first | exact Qi.qa | refine Qa_map ?_ | refine Qa_bind ?_ fun _ => ?_ | split | dsimp only⟩
instance Qa_asInt {v : Value} : Qi P (asInt v) := ⟨by
 unfold asInt
 repeat' first | exact Qi.qa | refine Qa_map ?_ | refine Qa_bind ?_ fun _ => ?_ | split | dsimp only⟩
instance Qa_sureAddr {v : Value} : Qi P (Instr.sureAddr v) := ⟨by
 unfold Instr.sureAddr
 repeat' first | exact Qi.qa | refine Qa_map ?_ | refine Qa_bind ?_ fun _ => ?_ | split | dsimp only⟩
theorem Qa_loadCellsFrom {a : Addr} : ∀ (n i : Nat) (acc : Array Value), Qa P (loadCellsFrom a i n acc)
 | 0, i, acc => trivial
 | n + 1, i, acc => by unfold loadCellsFrom; exact Qa_bind Qi.qa fun v => Qa_loadCellsFrom n _ _
instance {a : Addr} {n : Nat} : Qi P (loadCells a n) := ⟨Qa_loadCellsFrom _ _ _⟩
theorem Qa_storeCells {a : Addr} : ∀ (vs : List Value) (i : Nat), Qa P (storeCells a vs i)
 | [], i => trivial
 | v :: vs, i => by unfold storeCells; exact Qa_bind Qi.qa fun _ => Qa_storeCells vs _
instance {a : Addr} {vs : List Value} {i : Nat} : Qi P (storeCells a vs i) := ⟨Qa_storeCells _ _⟩
instance Qa_loadVar {t : TypeId} {a : Addr} : Qi P (loadVar t a) := ⟨by
 unfold loadVar
 repeat' first | exact Qi.qa | refine Qa_map ?_ | refine Qa_bind ?_ fun _ => ?_ | split | dsimp only⟩
instance Qa_storeVar {t : TypeId} {a : Addr} {v : Value} : Qi P (storeVar t a v) := ⟨by
 unfold storeVar
 repeat' first | exact Qi.qa | refine Qa_map ?_ | refine Qa_bind ?_ fun _ => ?_ | split | dsimp only⟩
instance Qa_newRow {t : TypeId} {cs : Array Value} : Qi P (newRow t cs) := ⟨by
 unfold newRow
 repeat' first | exact Qi.qa | refine Qa_map ?_ | refine Qa_bind ?_ fun _ => ?_ | split | dsimp only⟩
instance Qa_newVar {t : TypeId} {v : Value} : Qi P (newVar t v) := ⟨by
 unfold newVar
 repeat' first | exact Qi.qa | refine Qa_map ?_ | refine Qa_bind ?_ fun _ => ?_ | split | dsimp only⟩
instance Qa_part {t : TypeId} {cs : Array Value} {o : Nat} : Qi P (part t cs o) := ⟨by
 unfold part
 repeat' first | exact Qi.qa | refine Qa_map ?_ | refine Qa_bind ?_ fun _ => ?_ | split | dsimp only⟩
instance Qa_viewAt {r : Nat} : Qi P (viewAt r) := ⟨by
 unfold viewAt
 repeat' first | exact Qi.qa | refine Qa_map ?_ | refine Qa_bind ?_ fun _ => ?_ | split | dsimp only⟩
instance Qa_numberAt {r : Nat} : Qi P (numberAt r) := ⟨by
 unfold numberAt
 repeat' first | exact Qi.qa | refine Qa_map ?_ | refine Qa_bind ?_ fun _ => ?_ | split | dsimp only⟩
instance Qa_asNumber {a : Addr} {b : Bool} : Qi P (asNumber a b) := ⟨by
 unfold asNumber
 repeat' first | exact Qi.qa | refine Qa_map ?_ | refine Qa_bind ?_ fun _ => ?_ | split | dsimp only⟩
instance Qa_behindNumber {a : Addr} : Qi P (behindNumber a) := ⟨by
 unfold behindNumber
 repeat' first | exact Qi.qa | refine Qa_map ?_ | refine Qa_bind ?_ fun _ => ?_ | split | dsimp only⟩
instance Qa_noView {a : Addr} : Qi P (noView a) := ⟨by
 unfold noView
 repeat' first | exact Qi.qa | refine Qa_map ?_ | refine Qa_bind ?_ fun _ => ?_ | split | dsimp only⟩
instance Qa_stringish {a : Addr} : Qi P (stringish a) := ⟨by
 unfold stringish
 repeat' first | exact Qi.qa | refine Qa_map ?_ | refine Qa_bind ?_ fun _ => ?_ | split | dsimp only⟩
instance Qa_mayBeOne {a b : Addr} : Qi P (mayBeOne a b) := ⟨by
 unfold mayBeOne
 repeat' first | exact Qi.qa | refine Qa_map ?_ | refine Qa_bind ?_ fun _ => ?_ | split | dsimp only⟩
instance Qa_byteOf {a : Addr} : Qi P (byteOf a) := ⟨by
 unfold byteOf
 repeat' first | exact Qi.qa | refine Qa_map ?_ | refine Qa_bind ?_ fun _ => ?_ | split | dsimp only⟩
instance Qa_sameAddr {a b : Addr} : Qi P (sameAddr a b) := ⟨by
 unfold sameAddr
 repeat' first | exact Qi.qa | refine Qa_map ?_ | refine Qa_bind ?_ fun _ => ?_ | split | dsimp only⟩
instance {a b : Option Addr} : Qi P (samePointer a b) := ⟨by
 cases a <;> cases b <;> first | exact trivial | (show Qa P (sameAddr _ _); exact Qi.qa)⟩
instance Qa_loadAt {t : TypeId} {a : Value} : Qi P (Instr.loadAt t a) := ⟨by
 unfold Instr.loadAt
 repeat' first | exact Qi.qa | refine Qa_map ?_ | refine Qa_bind ?_ fun _ => ?_ | split | dsimp only⟩
instance Qa_storeAt {t : TypeId} {a v : Value} : Qi P (Instr.storeAt t a v) := ⟨by
 unfold Instr.storeAt
 repeat' first | exact Qi.qa | refine Qa_map ?_ | refine Qa_bind ?_ fun _ => ?_ | split | dsimp only⟩
instance Qa_alloc {t : TypeId} {b : Bool} {v : Value} : Qi P (Instr.alloc t b v) := ⟨by
 unfold Instr.alloc
 repeat' first | exact Qi.qa | refine Qa_map ?_ | refine Qa_bind ?_ fun _ => ?_ | split | dsimp only⟩
instance Qa_indexAt {t : TypeId} {a v : Value} : Qi P (Instr.indexAt t a v) := ⟨by
 unfold Instr.indexAt
 repeat' first | exact Qi.qa | refine Qa_map ?_ | refine Qa_bind ?_ fun _ => ?_ | split | dsimp only⟩
instance Qa_index {t : TypeId} {a v : Value} : Qi P (Instr.index t a v) := ⟨by
 unfold Instr.index
 repeat' first | exact Qi.qa | refine Qa_map ?_ | refine Qa_bind ?_ fun _ => ?_ | split | dsimp only⟩
instance Qa_extract {a : Value} {i : Nat} : Qi P (Instr.extract a i) := ⟨by
 unfold Instr.extract
 repeat' first | exact Qi.qa | refine Qa_map ?_ | refine Qa_bind ?_ fun _ => ?_ | split | dsimp only⟩
instance Qa_sliceBound {x : Value} {y : Nat} {c : BoundsCode} : Qi P (Instr.sliceBound x y c) := ⟨by
 unfold Instr.sliceBound
 repeat' first | exact Qi.qa | refine Qa_map ?_ | refine Qa_bind ?_ fun _ => ?_ | split | dsimp only⟩
instance Qa_sliceBounds {b : Bool} {l c : Nat} {lo hi mx : Option Value} : Qi P (Instr.sliceBounds b l c lo hi mx) := ⟨by
 unfold Instr.sliceBounds
 repeat' first | exact Qi.qa | refine Qa_map ?_ | refine Qa_bind ?_ fun _ => ?_ | split | dsimp only⟩
instance Qa_slice {t : TypeId} {x : Value} {lo hi mx : Option Value} : Qi P (Instr.slice t x lo hi mx) := ⟨by
 unfold Instr.slice
 repeat' first | exact Qi.qa | refine Qa_map ?_ | refine Qa_bind ?_ fun _ => ?_ | split | dsimp only⟩
instance Qa_sliceAt {t : TypeId} {x : Value} {lo hi mx : Option Value} : Qi P (Instr.sliceAt t x lo hi mx) := ⟨by
 unfold Instr.sliceAt
 repeat' first | exact Qi.qa | refine Qa_map ?_ | refine Qa_bind ?_ fun _ => ?_ | split | dsimp only⟩
instance Qa_partAt {a : Addr} {c b : Nat} : Qi P (partAt a c b) := ⟨by
 unfold partAt
 repeat' first | exact Qi.qa | refine Qa_map ?_ | refine Qa_bind ?_ fun _ => ?_ | split | dsimp only⟩
instance Qa_fieldPlace {a : Addr} {f : Field} : Qi P (fieldPlace a f) := ⟨by
 unfold fieldPlace
 repeat' first | exact Qi.qa | refine Qa_map ?_ | refine Qa_bind ?_ fun _ => ?_ | split | dsimp only⟩
instance Qa_fieldAt {t : TypeId} {x : Value} {f : Nat} : Qi P (Instr.fieldAt t x f) := ⟨by
 unfold Instr.fieldAt
 repeat' first | exact Qi.qa | refine Qa_map ?_ | refine Qa_bind ?_ fun _ => ?_ | split | dsimp only⟩
instance Qa_field {t : TypeId} {x : Value} {f : Nat} : Qi P (Instr.field t x f) := ⟨by
 unfold Instr.field
 repeat' first | exact Qi.qa | refine Qa_map ?_ | refine Qa_bind ?_ fun _ => ?_ | split | dsimp only⟩
instance Qa_len {ats : Array TypeId} {ty : TypeId} {args : Array Value} : Qi P (Builtin.len_ ats ty args) := ⟨by
 unfold Builtin.len_
 repeat' first | exact Qi.qa | refine Qa_map ?_ | refine Qa_bind ?_ fun _ => ?_ | split | dsimp only⟩
instance Qa_clear {ats : Array TypeId} {ty : TypeId} {args : Array Value} : Qi P (Builtin.clear_ ats ty args) := ⟨by
 unfold Builtin.clear_
 repeat' first | exact Qi.qa | refine Qa_map ?_ | refine Qa_bind ?_ fun _ => ?_ | split | dsimp only⟩
instance Qa_intArith {op : BinOp} {k : IntKind} {x y : Int} : Qi P (Op.intArith op k x y) := ⟨by
 unfold Op.intArith
 repeat' first | exact Qi.qa | refine Qa_map ?_ | refine Qa_bind ?_ fun _ => ?_ | split | dsimp only⟩
instance Qa_intBits {op : BinOp} {k : IntKind} {x y : Int} : Qi P (Op.intBits op k x y) := ⟨by
 unfold Op.intBits
 repeat' first | exact Qi.qa | refine Qa_map ?_ | refine Qa_bind ?_ fun _ => ?_ | split | dsimp only⟩
instance Qa_intDiv {op : BinOp} {k : IntKind} {x y : Int} : Qi P (Op.intDiv op k x y) := ⟨by
 unfold Op.intDiv
 repeat' first | exact Qi.qa | refine Qa_map ?_ | refine Qa_bind ?_ fun _ => ?_ | split | dsimp only⟩
instance Qa_shift {op : BinOp} {k yk : IntKind} {x y : Int} : Qi P (Op.shift op k x yk y) := ⟨by
 unfold Op.shift
 repeat' first | exact Qi.qa | refine Qa_map ?_ | refine Qa_bind ?_ fun _ => ?_ | split | dsimp only⟩
instance Qa_intCmp {op : BinOp} {x y : Int} : Qi P (Op.intCmp op x y) := ⟨by
 unfold Op.intCmp
 repeat' first | exact Qi.qa | refine Qa_map ?_ | refine Qa_bind ?_ fun _ => ?_ | split | dsimp only⟩
instance Qa_floatArith {op : BinOp} {k : FloatKind} {x y : Nat} : Qi P (Op.floatArith op k x y) := ⟨by
 unfold Op.floatArith
 repeat' first | exact Qi.qa | refine Qa_map ?_ | refine Qa_bind ?_ fun _ => ?_ | split | dsimp only⟩
instance Qa_floatCmp {op : BinOp} {k : FloatKind} {x y : Nat} : Qi P (Op.floatCmp op k x y) := ⟨by
 unfold Op.floatCmp
 repeat' first | exact Qi.qa | refine Qa_map ?_ | refine Qa_bind ?_ fun _ => ?_ | split | dsimp only⟩
instance Qa_floatToFloat {k : FloatKind} {x : Nat} {k2 : FloatKind} : Qi P (Conv.floatToFloat k x k2) := ⟨by
 unfold Conv.floatToFloat
 repeat' first | exact Qi.qa | refine Qa_map ?_ | refine Qa_bind ?_ fun _ => ?_ | split | dsimp only⟩
instance Qa_floatToInt {k : FloatKind} {x : Nat} {k2 : IntKind} : Qi P (Conv.floatToInt k x k2) := ⟨by
 unfold Conv.floatToInt
 repeat' first | exact Qi.qa | refine Qa_map ?_ | refine Qa_bind ?_ fun _ => ?_ | split | dsimp only⟩
instance Qa_cxArith {op : BinOp} {k : FloatKind} {x y : Nat} : Qi P (Op.Complex.arith op k x y) := ⟨by
 unfold Op.Complex.arith
 repeat' first | exact Qi.qa | refine Qa_map ?_ | refine Qa_bind ?_ fun _ => ?_ | split | dsimp only⟩
instance Qa_cxCmp {op : BinOp} {k : FloatKind} {x y : Nat} : Qi P (Op.Complex.cmp op k x y) := ⟨by
 unfold Op.Complex.cmp
 repeat' first | exact Qi.qa | refine Qa_map ?_ | refine Qa_bind ?_ fun _ => ?_ | split | dsimp only⟩
instance Qa_cxConv {k : FloatKind} {x : Nat} {k2 : FloatKind} : Qi P (Op.Complex.conv k x k2) := ⟨by
 unfold Op.Complex.conv
 repeat' first | exact Qi.qa | refine Qa_map ?_ | refine Qa_bind ?_ fun _ => ?_ | split | dsimp only⟩
instance {x y : Nat} : Qi P (Op.Complex.add x y) := ⟨(Qa_cxArith (P := P)).qa⟩
instance {x y : Nat} : Qi P (Op.Complex.sub x y) := ⟨(Qa_cxArith (P := P)).qa⟩
instance {x y : Nat} : Qi P (Op.Complex.mul x y) := ⟨(Qa_cxArith (P := P)).qa⟩
instance {x y : Nat} : Qi P (Op.Complex.quo x y) := ⟨(Qa_cxArith (P := P)).qa⟩
instance Qa_cxProduct {a b c d : Nat} : Qi P (Op.Complex.product a b c d) := ⟨by
 unfold Op.Complex.product
 repeat' first | exact Qi.qa | refine Qa_map ?_ | refine Qa_bind ?_ fun _ => ?_ | split | dsimp only⟩
instance Qa_cxCorrected {s a b c d : Nat} : Qi P (Op.Complex.corrected s a b c d) := ⟨by
 unfold Op.Complex.corrected
 repeat' first | exact Qi.qa | refine Qa_map ?_ | refine Qa_bind ?_ fun _ => ?_ | split | dsimp only⟩
instance Qa_cxQuotient {a b c d : Nat} : Qi P (Op.Complex.quotient a b c d) := ⟨by
 unfold Op.Complex.quotient
 repeat' first | exact Qi.qa | refine Qa_map ?_ | refine Qa_bind ?_ fun _ => ?_ | split | dsimp only⟩
instance Qa_complexOp {op : BinOp} {k : FloatKind} {a b c d : Nat} : Qi P (Op.complexOp op k a b c d) := ⟨by
 unfold Op.complexOp
 repeat' first | exact Qi.qa | refine Qa_map ?_ | refine Qa_bind ?_ fun _ => ?_ | split | dsimp only⟩
instance Qa_stringOp {op : BinOp} {a b : ByteArray} : Qi P (Op.stringOp op a b) := ⟨by
 unfold Op.stringOp
 repeat' first | exact Qi.qa | refine Qa_map ?_ | refine Qa_bind ?_ fun _ => ?_ | split | dsimp only⟩
instance Qa_twoPlaces {a b : Addr} : Qi P (Op.twoPlaces a b) := ⟨by
 unfold Op.twoPlaces
 repeat' first | exact Qi.qa | refine Qa_map ?_ | refine Qa_bind ?_ fun _ => ?_ | split | dsimp only⟩
instance Qa_addrSub {k : IntKind} {a b : Addr} : Qi P (Op.addrSub k a b) := ⟨by
 unfold Op.addrSub
 repeat' first | exact Qi.qa | refine Qa_map ?_ | refine Qa_bind ?_ fun _ => ?_ | split | dsimp only⟩
instance Qa_addrCmp {op : BinOp} {a b : Addr} : Qi P (Op.addrCmp op a b) := ⟨by
 unfold Op.addrCmp
 repeat' first | exact Qi.qa | refine Qa_map ?_ | refine Qa_bind ?_ fun _ => ?_ | split | dsimp only⟩
instance Qa_addrMod {k : IntKind} {a : Addr} {n : Int} : Qi P (Op.addrMod k a n) := ⟨by
 unfold Op.addrMod
 repeat' first | exact Qi.qa | refine Qa_map ?_ | refine Qa_bind ?_ fun _ => ?_ | split | dsimp only⟩
instance Qa_unsafeAdd {ats : Array TypeId} {ty : TypeId} {x y : Value} : Qi P (Builtin.unsafeAdd_ ats ty #[x, y]) := ⟨by
 unfold Builtin.unsafeAdd_
 cases x <;> (first | exact trivial | dsimp only)
 all_goals repeat' first
  | exact Qi.qa
  | refine Qa_map ?_
  | refine Qa_bind ?_ fun _ => ?_
  | split
  | dsimp only⟩
instance Qa_movedNumber {t : TypeId} {x y : Value} : Qi P (movedNumber t x y) := ⟨by
 unfold movedNumber
 repeat' first | exact Qi.qa | refine Qa_map ?_ | refine Qa_bind ?_ fun _ => ?_ | split | dsimp only⟩
instance Qa_movedPointer {t : TypeId} {x y : Value} : Qi P (movedPointer t x y) := ⟨by
 unfold movedPointer
 repeat' first | exact Qi.qa | refine Qa_map ?_ | refine Qa_bind ?_ fun _ => ?_ | split | dsimp only⟩
theorem Qa_equalIn : ∀ (d : Nat) (t : TypeId) (x y : Value), Qa P (Op.equalIn d t x y)
 | 0, t, x, y => trivial
 | d + 1, t, x, y => by
  unfold Op.equalIn
  repeat' first | exact Qi.qa | exact Qa_equalIn d _ _ _ | refine Qa_forIn (fun _ _ => ?_) _ _ | refine Qa_forInA (fun _ _ => ?_) _ _ | refine Qa_forInR (fun _ _ => ?_) _ _ | refine Qa_map ?_ | refine Qa_bind ?_ fun _ => ?_ | split | dsimp only
theorem Qa_eqGuardIn : ∀ (d : Nat) (t : TypeId) (x y : Value), Qa P (Op.eqGuardIn d t x y)
 | 0, t, x, y => trivial
 | d + 1, t, x, y => by
  unfold Op.eqGuardIn
  repeat' first | exact Qi.qa | exact Qa_eqGuardIn d _ _ _ | refine Qa_forIn (fun _ _ => ?_) _ _ | refine Qa_forInA (fun _ _ => ?_) _ _ | refine Qa_forInR (fun _ _ => ?_) _ _ | refine Qa_map ?_ | refine Qa_bind ?_ fun _ => ?_ | split | dsimp only
instance {t : TypeId} {x y : Value} : Qi P (Op.equal t x y) := ⟨Qa_equalIn _ _ _ _⟩
instance {d : Nat} {t : TypeId} {x y : Value} : Qi P (Op.eqGuardIn d t x y) := ⟨Qa_eqGuardIn _ _ _ _⟩
instance Qa_eqGuard {op : BinOp} {t : TypeId} {x y : Operand} {a b : Value} : Qi P (eqGuard op t x y a b) := ⟨by
 unfold eqGuard
 repeat' first | exact Qi.qa | refine Qa_map ?_ | refine Qa_bind ?_ fun _ => ?_ | split | dsimp only⟩
instance Qa_binOp {op : BinOp} {t : TypeId} {a b : Value} : Qi P (binOp op t a b) := ⟨by
 unfold binOp
 repeat' first | exact Qi.qa | refine Qa_map ?_ | refine Qa_bind ?_ fun _ => ?_ | split | dsimp only⟩
instance Qa_unary {op : UnOp} {x : Value} : Qi P (Op.unary op x) := ⟨by
 unfold Op.unary
 repeat' first | exact Qi.qa | refine Qa_map ?_ | refine Qa_bind ?_ fun _ => ?_ | split | dsimp only⟩
theorem Qa_followBlind : ∀ (l : List FieldStep) (t : TypeId) (x : Option Value), Qa P (followBlind l t x)
 | [], t, x => trivial
 | s :: l, t, x => by
  unfold followBlind
  repeat' first | exact Qi.qa | exact Qa_followBlind l _ _ | refine Qa_map ?_ | refine Qa_bind ?_ fun _ => ?_ | split | dsimp only
instance {l : List FieldStep} {t : TypeId} {x : Option Value} : Qi P (followBlind l t x) := ⟨Qa_followBlind _ _ _⟩
theorem Qa_nilAhead : ∀ (d : Nat) (t : TypeId) (x : Value) (s : String), Qa P (nilAhead d t x s)
 | 0, t, x, s => trivial
 | d + 1, t, x, s => by
  unfold nilAhead
  repeat' first | exact Qi.qa | exact Qa_nilAhead d _ _ _ | refine Qa_map ?_ | refine Qa_bind ?_ fun _ => ?_ | split | dsimp only
instance {d : Nat} {t : TypeId} {x : Value} {s : String} : Qi P (nilAhead d t x s) := ⟨Qa_nilAhead _ _ _ _⟩
end
end Go.Mu
namespace Go.Mu
open Go Go.Conc
def opOk (P : Program) (L : FuncId → Bool) : Op → Bool
 | .move _ | .assign _ | .pick .. | .alloc _ | .load .. | .store .. | .binOp .. | .unOp .. | .slice .. | .fieldAddr .. | .field .. | .indexAddr .. | .index .. | .extract .. | .nilCheck _ => true
 | .convert s d _ => match P.underlying s, P.underlying d with
  | some (.int _), some (.int _) => true
  | _, _ => false
 | .call ⟨.value (.func f), _, _⟩ => L f
 | .call ⟨.builtin .len, _, _⟩ | .call ⟨.builtin .clear, _, _⟩ => true
 | _ => false
def codeOk (P : Program) (L : FuncId → Bool) : Code → Bool
 | .region _ ops _ => ops.all fun o => opOk P L o.op
 | .seq a b | .cond _ a b => codeOk P L a && codeOk P L b
 | .block _ c | .loop c | .scope c => codeOk P L c
 | .skip | .label _ | .exit _ | .goto _ | .ret | .refuse _ => true
 | .rangeFunc .. => false
def resOk (fn : Func) : Bool := match fn.results.toList with
 | [] | [.tmp _] | [.tmp _, .tmp _] => true
 | _ => false
def fnOk (P : Program) (L : FuncId → Bool) (f : FuncId) : Bool := match P.funcs[f]? with
 | some fn => !(fn.name == "runtime.NumGoroutine") && resOk fn && match fn.body with
  | some c => codeOk P L c
  | none => false
 | none => false
def noSteps (P : Program) : Bool := P.funcs.all fun f => match f.body with
 | some c => (readies c).isEmpty
 | none => true
variable {P : Program} {L : FuncId → Bool}
theorem Qt_val {x : Sem Value} (h : Qa P x) : Qt P (do pure (.value (← x)) : Sem Next) (OkNext L) := Qt_bind (Qt_mono h fun _ _ => trivial)
theorem Qt_unit {x : Sem Unit} (h : Qa P x) : Qt P (do x; pure .skip : Sem Next) (OkNext L) := Qt_bind (Qt_mono h fun _ _ => trivial)
theorem Qa_convert {s d : TypeId} {k k' : IntKind} {x : Value} (hs : P.underlying s = some (.int k)) (hd : P.underlying d = some (.int k')) : Qa P (convert s d x) := by
 unfold convert underlying
 show Qt P (program >>= _) _
 simp only [Qa, Qt, bind, Sem.bind, program, hs, hd, pure]
 cases x <;> first | exact trivial | exact (Qi.qa : Qa P (Conv.floatToInt _ _ _)) | (rename_i a; cases a <;> exact trivial)
theorem Qt_nilCheck {x : Value} {fr : Frame} {o : Operand} (hx : fr.eval o = x) {ty : TypeId} {dst : Option Tmp} {pos : String} {af : _} {gd : _} : Qt P (execOp fr.eval ⟨dst, .nilCheck o, ty, pos, af, gd⟩) (OkNext L) := by
 have fin : Qt P (runtimePanic .nilDeref : Sem Next) (OkNext L) := by
  unfold runtimePanic; exact trivial
 simp only [execOp, hx]
 split
 ·exact fin
 ·exact fin
 ·exact fin
 ·split
  ·exact fin
  ·refine Qt_bind (Qt_mono (Qi.qa : Qa P program) fun p _ => Qt_bind (Qt_mono (Qi.qa : Qa P (nilAhead _ _ _ _)) fun r _ => ?_))
   split
   ·exact trivial
   ·exact trivial
  ·exact trivial
 ·exact trivial
theorem opOk_sound (hfn : ∀ f, L f = true → ∃ fn, P.funcs[f]? = some fn ∧ (fn.name == "runtime.NumGoroutine") = false ∧ fn.body.isNone = false) {o : Oper} (h : opOk P L o.op = true) : OkOper P L o := by
 obtain ⟨dst, op, type, pos, after, guard⟩ := o
 simp only at h
 refine ⟨fun fr => ?_, fun c e => ?_⟩
 ·cases op with
  | move x => trivial
  | assign x => trivial
  | pick c x y => exact Qt_bind (Qt_mono (Qi.qa : Qa P (asBool _)) fun _ _ => trivial)
  | alloc t => exact Qt_val Qi.qa
  | load t x => exact Qt_val Qi.qa
  | store t x y => exact Qt_unit Qi.qa
  | binOp b t x y u => exact Qt_val Qi.qa
  | unOp b t x => exact Qt_val Qi.qa
  | slice t x lo hi mx => exact Qt_val Qi.qa
  | fieldAddr t x f => exact Qt_val Qi.qa
  | field t x f => exact Qt_val Qi.qa
  | indexAddr t x f => exact Qt_val Qi.qa
  | index t x f => exact Qt_val Qi.qa
  | extract t x => exact Qt_val Qi.qa
  | nilCheck x => exact Qt_nilCheck rfl
  | convert s d x =>
   simp only [opOk] at h
   split at h
   ·rename_i hs hd; exact Qt_val (Qa_convert hs hd)
   ·cases h
  | call c =>
   obtain ⟨callee, args, ats⟩ := c
   cases callee with
   | builtin b =>
    have hinv : ∀ cs, Qt P (builtin b ats type cs (args.map fr.eval)) (OkNext L) → Qt P (resolve fr.eval ⟨.builtin b, args, ats⟩ type >>= fun d => invoke d.target d.args) (OkNext L) := fun cs hs => by
     refine Qt_bind ?_
     cases b <;> first | (simp [opOk] at h; done) | exact Qt_val Qi.qa
    cases b <;> first | (simp [opOk] at h; done) | exact hinv #[] (Qt_val Qi.qa)
   | value f =>
    cases f with
    | func f =>
     have hL : L f = true := by simpa [opOk] using h
     obtain ⟨fn, h1, h2, h3⟩ := hfn f hL
     show Qt P (resolve fr.eval ⟨.value (.func f), args, ats⟩ type >>= fun d => invoke d.target d.args) (OkNext L)
     simp only [resolve, Frame.eval, Deferred.ofValue]
     refine Qt_bind ?_
     show Qt P (invoke _ _) (OkNext L)
     simp only [invoke, callFunc]
     refine Qt_bind (Φ := OkNext L) ?_
     show Qt P (match P.funcs[f]? with | none => _ | some fn => _) (OkNext L)
     rw [h1]
     simp only [h2, h3, Bool.false_eq_true, if_false]
     exact hL
    | _ => simp [opOk] at h
   | _ => simp [opOk] at h
  | _ => simp [opOk] at h
 ·simp only at e; subst e; simp [opOk] at h
theorem codeOk_sound (hfn : ∀ f, L f = true → ∃ fn, P.funcs[f]? = some fn ∧ (fn.name == "runtime.NumGoroutine") = false ∧ fn.body.isNone = false) : ∀ {c : Code}, codeOk P L c = true → OkCode P L c
 | .region _ ops _, h => fun o ho => opOk_sound hfn (by
   simp only [codeOk, Array.all_eq_true_iff_forall_mem] at h; exact h o ho)
 | .seq a b, h | .cond _ a b, h => by
  simp only [codeOk, Bool.and_eq_true] at h
  exact ⟨codeOk_sound hfn h.1, codeOk_sound hfn h.2⟩
 | .block _ c, h | .loop c, h | .scope c, h => codeOk_sound (c := c) hfn h
 | .skip, _ | .label _, _ | .exit _, _ | .goto _, _ | .ret, _ | .refuse _, _ => trivial
 | .rangeFunc .., h => by simp [codeOk] at h
theorem resOk_sound {fn : Func} (h : resOk fn = true) : OkRes P fn := by
 refine OkRes.of_flat ?_
 unfold resOk at h
 split at h
 ·rename_i e; exact .inl (by apply Array.ext'; simpa using e)
 ·rename_i t e; exact .inr (.inl ⟨t, by apply Array.ext'; simpa using e⟩)
 ·rename_i t u e; exact .inr (.inr ⟨t, u, by apply Array.ext'; simpa using e⟩)
 ·cases h
theorem LOK.of_list {l : List FuncId} (h : l.all (fnOk P (fun f => l.contains f)) = true) (hs : noSteps P = true) (ha : P.follows .staticDataAhead = true) : LOK P (fun f => l.contains f) := by
 have hf : ∀ f, l.contains f = true → ∃ fn c, P.funcs[f]? = some fn ∧ (fn.name == "runtime.NumGoroutine") = false ∧ fn.body = some c ∧ codeOk P (fun f => l.contains f) c = true ∧ resOk fn = true := by
  intro f hf
  have := List.all_eq_true.1 h f (by simpa using hf)
  unfold fnOk at this
  split at this
  ·rename_i fn h1
   simp only [Bool.and_eq_true, Bool.not_eq_true'] at this
   obtain ⟨⟨h2, h3⟩, h4⟩ := this
   split at h4
   ·rename_i c h5; exact ⟨fn, c, h1, h2, h5, h4, h3⟩
   ·cases h4
  ·cases this
 have hfn : ∀ f, l.contains f = true → ∃ fn, P.funcs[f]? = some fn ∧ (fn.name == "runtime.NumGoroutine") = false ∧ fn.body.isNone = false := fun f h => by
  obtain ⟨fn, c, h1, h2, h3, _⟩ := hf f h
  exact ⟨fn, h1, h2, by rw [h3]; rfl⟩
 refine ⟨fun f h => ?_, fun g => ?_, ha⟩
 ·obtain ⟨fn, c, h1, h2, h3, h4, h5⟩ := hf f h
  exact ⟨fn, c, h1, h2, h3, codeOk_sound hfn h4, resOk_sound h5⟩
 ·unfold Program.stepOf
  rw [Array.findIdx?_eq_none_iff]
  intro fn hm
  unfold noSteps at hs
  rw [Array.all_eq_true_iff_forall_mem] at hs
  have := hs fn hm
  cases hb : fn.body with
  | none => rfl
  | some c =>
   rw [hb] at this
   have h0 : readies c = [] := by simpa using this
   simp [h0]
end Go.Mu
namespace Go.Mu
open Go Go.Proofs Go.Shelf Go.Sort
theorem R.grown {K : Kr} {σ : List AObj} {w : World} (h : R K σ w) (os : Array Obj) : R K σ { w with heap := w.heap ++ os } ∧ Step K σ w K σ { w with heap := w.heap ++ os } := by
 have old : ∀ b, b < w.heap.size → ({ w with heap := w.heap ++ os } : World).heap[b]? = w.heap[b]? := fun b hb => Array.getElem?_append_left hb
 have hlt : ∀ {r o}, σ[r]? = some o → r < σ.length := fun h => (List.getElem?_eq_some_iff.1 h).1
 refine ⟨⟨fun b p v hv => ?_, fun r o hr => ?_, h.inj, fun g cs hg => ?_⟩, ?_⟩
 ·rw [cell_of_heap (old b (h.lt hv))]; exact h.stab b p v hv
 ·exact (h.obj r o hr).mono (hlt hr) (.refl _ _) (Nat.le_refl _) rfl fun b hb => ⟨old b ((h.obj r o hr).blk_lt hb), fun _ => rfl⟩
 ·obtain ⟨⟨E, fz, h1⟩, h2⟩ := h.lay g cs hg
  exact ⟨⟨E, fz, by rw [old g (lt_of_heap h1)]; exact h1⟩, h2⟩
 ·exact ⟨.refl _ _, Nat.le_refl _, by simp, fun b hb hf => ⟨old b hb, hf, fun _ => rfl⟩, rfl, rfl, rfl, fun b hb => by rw [old b hb], Nat.le_refl _⟩
theorem ints_flat (l : List Int) : (l.map (AV.int .i64)).flatMap AV.cells = l.map (AV.int .i64) := by
 induction l with
 | nil => rfl
 | cons x l ih => simp only [List.map_cons, List.flatMap_cons, ih]; rfl
theorem ints_vals {K : Kr} {n : Nat} {l : List Int} {cs : List Value} (h : VRs K n (l.map (AV.int .i64)) cs) : cs = l.map (Value.int .i64) := by
 apply List.ext_getElem
 ·rw [← h.1]; simp
 ·intro i h1 h2
  have := h.2 i (by simpa using h2) h1
  rw [List.getElem_map] at this
  rw [this.int_inv, List.getElem_map]
theorem vals_ints {K : Kr} {n : Nat} (l : List Int) : VRs K n (l.map (AV.int .i64)) (l.map (Value.int .i64)) :=
 ⟨by simp, fun i h1 h2 => by rw [List.getElem_map, List.getElem_map]; exact .int _ _⟩
theorem putCells_row {l : List Int} {o : Nat} {cc : Array Value} (h : o + l.length ≤ cc.size) : (((putCells (Value.int .i64) o l.toArray cc).toList.drop o).take l.length) = l.map (Value.int .i64) := by
 apply List.ext_getElem
 ·simp [putCells]; omega
 ·intro i h1 h2
  have hi : i < l.length := by simpa using h2
  simp only [List.getElem_take, List.getElem_drop, putCells, List.size_toArray, Array.toList_mapIdx, List.getElem_mapIdx]
  rw [if_pos ⟨by omega, by omega⟩]
  simp [hi]
theorem sort_b {P : Program} {ρ : Ren} (L : Lays.n189 P ρ) {Lf : FuncId → Bool} (hL : LOK P Lf) (hfl : Lf (ρ.f 189) = true) (hC : Callable P (ρ.f 189)) (zs : List Int) (hz : zs ≠ []) (hn : zs.length ≤ 4294967296) {σ : List AObj} {r : Nat} (hg : hget σ r = some (.vec 1 (zs.map (.int .i64)))) {Q : AV → List AObj → Prop}
  (h : Q (.tup []) (hset σ r (.vec 1 ((zs.mergeSort fun x y => decide (x ≤ y)).map (.int .i64))))) : ACalls (fun M => M = Bes P) (ρ.f 189) [.vec r zs.length] σ Q := by
 refine acalls_of_lone hL hfl hC fun K w cargs hR hA => ?_
 obtain ⟨a, cap, h1, h2, h3, hsz, h5⟩ := hR.obj r _ hg
 rw [List.length_map] at h1 h2 h3
 have hlen : 0 < zs.length := List.length_pos_iff.2 hz
 obtain ⟨b, o, cc, E, rfl, g2, g3, g4, g5, g6⟩ := h5 (by omega)
 rw [ints_flat, List.length_map] at g4
 have hrow := ints_vals g4
 obtain ⟨c0, hc0⟩ : ∃ c0, cargs.toList = [c0] := List.length_eq_one_iff.1 hA.1.symm
 rw [hc0] at hA
 have hv : VR K σ.length (.vec r zs.length) c0 := hA.2 0 (by simp) (by simp)
 have hca : cargs = #[.slice (some ⟨b, o, none⟩) zs.length cap] := by
  cases hv with
  | vec _ _ a' cap' hr' hl' ht ha =>
   rw [h1] at ht
   simp only [Option.some.injEq, Prod.mk.injEq] at ht
   obtain ⟨rfl, rfl⟩ := ht
   apply Array.ext'
   rw [hc0]
 subst hca
 have hcc : ∀ j, j < zs.length → cc.toList[o + j]? = some (.int .i64 (zs.getD j 0)) := fun j hj => by
  have e : ((cc.toList.drop o).take (zs.length * 1))[j]? = (zs.map (Value.int .i64))[j]? := by rw [hrow]
  rw [List.getElem?_take_of_lt (by omega), List.getElem?_drop] at e
  rw [e]
  simp [hj]
 have hH : Holds (Value.int .i64) w b o zs.toArray := fun j hj => by
  have hj' : j < zs.length := by simpa using hj
  have hx := hcc j hj'
  have hb : o + j < cc.size := by omega
  have hx2 : cc[o + j] = .int .i64 (zs.getD j 0) := by
   rw [Array.getElem?_toList, Array.getElem?_eq_getElem hb] at hx
   exact Option.some.inj hx
  refine ⟨?_, ?_⟩
  ·simp [World.cell?, g2, hb, hx2, List.getD, hj']
  ·simp [World.frozen?, g2]
 refine (Any.slices_Sort_int L b o cap zs w hH (lt_of_heap g2) (by omega)).mono ?_
 rintro e w' ⟨rfl, n, os, rfl⟩
 have hsl : (zs.mergeSort fun x y => decide (x ≤ y)).length = zs.length := List.length_mergeSort _
 generalize (zs.mergeSort fun x y => decide (x ≤ y)) = ys at hsl h ⊢
 have hR1 : R K σ (Sort.ahead w n) := hR.drew _
 have hp2 : (putRow (Value.int .i64) (Sort.ahead w n) b o ys.toArray).heap[b]? = some (.cells (putCells (Value.int .i64) o ys.toArray cc) E (0, 0)) := by
  simp [putRow, mapBlock, Sort.ahead, Array.getElem?_modify, g2, onCells]
 have hB : ∀ b', ObjBlk K r (.vec 1 (ys.map (.int .i64))) b' → b' = b := fun b' hb => by
  obtain ⟨a', cap', q1, q2, q3⟩ := hb
  rw [List.length_map, hsl, h1] at q1
  simp only [Option.some.injEq, Prod.mk.injEq] at q1
  rw [← q3, ← q1.1]
 have hO : ObjR K σ.length (putRow (Value.int .i64) (Sort.ahead w n) b o ys.toArray) r (.vec 1 (ys.map (.int .i64))) := by
  refine ⟨_, cap, by rw [List.length_map, hsl]; exact h1, by rw [List.length_map]; omega, fun k hk => h3 k (by rw [List.length_map, hsl] at hk; exact hk), fun i hi => by rw [List.getElem_map]; rfl, fun _ => ⟨b, o, _, E, rfl, hp2, by simp [putCells]; omega, ?_, ?_, g6⟩⟩
  ·rw [ints_flat, List.length_map, Nat.mul_one, putCells_row (by omega)]
   exact vals_ints ys
  ·intro c hc
   simp only [putCells, Array.toList_mapIdx] at hc
   obtain ⟨k, hk, rfl⟩ := List.mem_mapIdx.1 hc
   split
   ·rfl
   ·exact g5 _ (List.getElem_mem _)
 obtain ⟨s1, s2⟩ := hR1.turn (w' := putRow (Value.int .i64) (Sort.ahead w n) b o ys.toArray) (o' := .vec 1 (ys.map (.int .i64))) hg b ⟨_, cap, by rw [List.length_map]; exact h1, by omega, rfl⟩ K (.refl _ _) (fun _ _ => rfl) (fun b' hb => by simp [putRow, mapBlock, Array.getElem?_modify, Ne.symm hb]) (by simp) (fun _ _ _ => rfl) (fun p v hv' => by rw [g6 p] at hv'; cases hv') hB hO rfl rfl rfl (by rw [hp2, show (Sort.ahead w n).heap[b]? = w.heap[b]? from rfl, g2]; rfl)
 obtain ⟨t1, t2⟩ := s1.grown os
 exact ⟨.tuple #[], rfl, .tup [], _, K, .tup [] [] rfl (fun i hi => by simp at hi), h, t1, (Step.drew _ s2).trans t2⟩
end Go.Mu
