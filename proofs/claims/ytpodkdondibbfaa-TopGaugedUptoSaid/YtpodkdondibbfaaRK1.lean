/- Texts of a proof: lemmas. -/
import Derived.Test.YtpodkdondibbfaaA21
import Derived.Test.YtpodkdondibbfaaAB
set_option linter.unusedSimpArgs false
set_option linter.unusedVariables false
set_option maxRecDepth 100000
namespace Go.Proofs
open Go Go.Mu

theorem ACalls.of_evN {E : Env} (n : Nat) (hE : EnvOK E) {f : FuncId} {fn : Func} {c : Code} {args : List AV} {σ : List AObj} {Q : AV → List AObj → Prop} (kp : Nat → Bool) (hf : E.P.funcs[f]? = some fn) (hb : fn.body = some c) (hN : fn.ntmps = E.N) (hA : args.length ≤ E.N)
    (hC : Callable E.P f) (hO : todoOK E [.code c] = true)
    (h : ev E none n [.code c] ⟨kp, [], number 0 args⟩ σ (retPost E fn.results.toList Q)) : ACalls E.P f args σ Q := by
  refine ACalls.of_run hE kp hf hb hN hA hC ((ev_sound hE hO h).mono fun j fr σ' ⟨h1, h2⟩ => ⟨h1, ?_⟩)
  cases hr : resAs E fr σ' fn.results.toList with
  | none => rw [hr] at h2; exact h2.elim
  | some vs => rw [hr] at h2; exact ⟨vs, rfl, h2⟩
/-- Ways that meet again: the rest is walked once. -/
theorem ARun.cutP {α : Type} {E : Env} {ro : Option Nat} {todo : List Item} {kp : Nat → Bool} {Q : Post} (J : α → Prop) (sl : α → List (Nat × AV)) (S : α → List AObj) {G : Prop}
    (f : (∀ a, J a → ARun E ro todo ⟨kp, [], sl a⟩ (S a) Q) → G) (g : ∀ a, J a → ARun E ro todo ⟨kp, [], sl a⟩ (S a) Q) : G := f g
/-- A statement whose ways meet again, walked for any rest of the code. -/
theorem ARun.cutC {α : Type} {E : Env} (hE : EnvOK E) {ro : Option Nat} {C : Code} {rest : List Item} {kp : Nat → Bool} {tm sl0 : List (Nat × AV)} {σ : List AObj} {Q : Post} (n : Nat) (J : α → Prop) (sl : α → List (Nat × AV)) (S : α → List AObj)
    (hO : todoOK E [.code C] = true) (hk : todoOK E rest = true)
    (way : ∀ (K : List Item) (Q : Post), (∀ a, J a → ARun E ro K ⟨kp, [], sl a⟩ (S a) Q) → ev E ro n (.code C :: K) ⟨kp, [], sl0⟩ σ Q)
    (g : ∀ a, J a → ARun E ro rest ⟨kp, [], sl a⟩ (S a) Q) : ARun E ro (.code C :: rest) ⟨kp, tm, sl0⟩ σ Q :=
  ARun.anew (fr := ⟨kp, tm, sl0⟩) (ev_sound hE (by
    rw [todoOK_cons, Bool.and_eq_true] at hO ⊢
    exact ⟨hO.1, hk⟩) (way rest Q g))
/-- The same, each way walked with a fuel of its own. -/
theorem ARun.cutD {α : Type} {E : Env} (hE : EnvOK E) {ro : Option Nat} {C : Code} {rest : List Item} {kp : Nat → Bool} {tm sl0 : List (Nat × AV)} {σ : List AObj} {Q : Post} (J : α → Prop) (sl : α → List (Nat × AV)) (S : α → List AObj)
    (hO : todoOK E [.code C] = true) (hk : todoOK E rest = true)
    (way : ∀ (K : List Item) (Q : Post), (∀ n, ev E ro n (.code C :: K) ⟨kp, [], sl0⟩ σ Q → ARun E ro (.code C :: K) ⟨kp, [], sl0⟩ σ Q) → (∀ a, J a → ARun E ro K ⟨kp, [], sl a⟩ (S a) Q) → ARun E ro (.code C :: K) ⟨kp, [], sl0⟩ σ Q)
    (g : ∀ a, J a → ARun E ro rest ⟨kp, [], sl a⟩ (S a) Q) : ARun E ro (.code C :: rest) ⟨kp, tm, sl0⟩ σ Q :=
  ARun.anew (fr := ⟨kp, tm, sl0⟩) (way rest Q (fun n h => ev_sound hE (n := n) (by
    rw [todoOK_cons, Bool.and_eq_true] at hO ⊢
    exact ⟨hO.1, hk⟩) h) g)
theorem pw_get {σ l : List AObj} {r a : Nat} {s : Int} (h : a < σ.length) (ha : a ≠ r) : hget (pw σ r s ++ l) a = hget σ a := by
  rw [hget_app (by rw [length_pw]; exact h)]
  exact hget_ne (fun e => ha e.symm)
end Go.Proofs
