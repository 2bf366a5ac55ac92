/- Loops whose rounds are walked for any rest of the code and any end. -/
import Derived.Test.YtbkjffpembflcaaMu3
set_option linter.unusedSimpArgs false
set_option linter.unusedVariables false
namespace Go.Mu
open Go

theorem todoOK_two {E : Env} {c : Code} {K : List Item} (h : todoOK E [.code c, .inLoop c] = true) (hK : todoOK E K = true) : todoOK E (.code c :: .inLoop c :: K) = true := by
  simp only [todoOK_cons, Bool.and_eq_true] at h ⊢
  exact ⟨h.1, h.2.1, hK⟩
theorem ARun.forG {E : Env} (hE : EnvOK E) {ro : Option Nat} {c : Code} {k : List Item} {kp : Nat → Bool} {tm sl : List (Nat × AV)} {σ : List AObj} {Q : Post} (n : Nat) (P : Nat → Prop) (lv : Nat → List (Nat × AV)) (S : Nat → List AObj → List AObj) (j0 : List AObj)
    (hO : todoOK E [.code c, .inLoop c] = true) (hk : todoOK E k = true) (hσ : S 0 j0 = σ) (h0 : subF (upd sl (lv 0)) sl) (hP : P 0)
    (hs : ∀ (K : List Item) (Q : Post), todoOK E K = true → ∀ i j, i < n → P i → (P (i + 1) → ∀ j', ARun E ro (.inLoop c :: K) ⟨kp, [], upd sl (lv (i + 1))⟩ (S (i + 1) j') Q) → ev E ro 100000 (.code c :: .inLoop c :: K) ⟨kp, [], upd sl (lv i)⟩ (S i j) Q)
    (he : ∀ j, P n → ev E ro 100000 (.code c :: .inLoop c :: k) ⟨kp, [], upd sl (lv n)⟩ (S n j) Q) : ARun E ro (.code (.loop c) :: k) ⟨kp, tm, sl⟩ σ Q :=
  ARun.forS hE n P lv S j0 (todoOK_two hO hk) hσ h0 hP (hs k Q hk) he
/-- The rest of a code is walked for any end. -/
theorem todoOK_nil' {E : Env} : todoOK E [] = true := rfl
end Go.Mu
