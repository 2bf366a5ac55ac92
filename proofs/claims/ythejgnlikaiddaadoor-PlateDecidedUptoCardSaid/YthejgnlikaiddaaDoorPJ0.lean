/- Texts of a proof: lemmas. -/
import Derived.Test.YthejgnlikaiddaaDoorPA1
set_option linter.unusedSimpArgs false
set_option linter.unusedVariables false
set_option maxRecDepth 100000
namespace Go.Proofs
open Go Go.Mu

theorem ARun.loopJ {E : Env} (hE : EnvOK E) {ro : Option Nat} {c : Code} {k : List Item} {kp : Nat → Bool} {tm sl : List (Nat × AV)} {σ : List AObj} {Q : Post} {α : Type} (m : α → Nat) (J : α → List AObj → Prop) (lv : α → List (Nat × AV)) (x0 : α)
    (hO : todoOK E (.code c :: .inLoop c :: k) = true) (h0 : subF (upd sl (lv x0)) sl) (hJ : J x0 σ)
    (hs : ∀ x τ, J x τ → (∀ y τ', m y < m x → J y τ' → ARun E ro (.inLoop c :: k) ⟨kp, [], upd sl (lv y)⟩ τ' Q) → ev E ro 100000 (.code c :: .inLoop c :: k) ⟨kp, [], upd sl (lv x)⟩ τ Q) : ARun E ro (.code (.loop c) :: k) ⟨kp, tm, sl⟩ σ Q := by
  have key : ∀ n x τ, m x = n → J x τ → ARun E ro (.code c :: .inLoop c :: k) ⟨kp, [], upd sl (lv x)⟩ τ Q := by
    intro n
    induction n using Nat.strongRecOn with
    | _ n ih =>
      intro x τ hm hj
      exact ev_sound hE hO (hs x τ hj fun y τ' hlt hy => .inLoop (ih (m y) (by omega) y τ' rfl hy))
  exact .loop (ARun.sub (key _ x0 σ rfl hJ) h0)
theorem nextA_intro {X : AV → List AObj → Prop} {τ : List AObj} {r q c : Nat} {seen : List Nat} {es : List (AV × AV)} (hg : hget τ r = some (.iter (some q) c seen)) (hq : hget τ q = some (.map es)) (hc : c = es.length)
    (h1 : ∀ i k v, es[i]? = some (k, v) → i ∉ seen → X (.tup [.bool true, k, v]) (hset τ r (.iter (some q) c (seen ++ [i])))) (h2 : (∀ i, i < es.length → i ∈ seen) → X (.tup [.bool false]) τ) : nextA X τ (some (.ptr r 0)) := by
  unfold nextA
  simp only [hg, hq]
  exact ⟨hc, h1, h2⟩
theorem nodup_lt : ∀ {n : Nat} {l : List Nat}, l.Nodup → (∀ i ∈ l, i < n) → l.length ≤ n
  | 0, l, _, hl => by
    cases l with
    | nil => simp
    | cons a l => have := hl a (by simp); omega
  | n + 1, l, h, hl => by
    by_cases hm : n ∈ l
    · have h1 : (l.erase n).length ≤ n := nodup_lt (h.erase n) fun i hi => by
        have h2 := hl i (List.mem_of_mem_erase hi)
        have h3 : i ≠ n := (List.Nodup.mem_erase_iff h).1 hi |>.1
        omega
      rw [List.length_erase_of_mem hm] at h1
      omega
    · have := nodup_lt h fun i hi => by
        have h2 := hl i hi
        have h3 : i ≠ n := fun e => hm (e ▸ hi)
        show i < n
        omega
      omega
end Go.Proofs
